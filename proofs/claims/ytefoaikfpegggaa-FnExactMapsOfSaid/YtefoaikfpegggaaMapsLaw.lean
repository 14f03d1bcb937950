/- What is proved: the law FnExactMapsOf, called on bounds that read as x and y, returns true and writes nothing that was there. Conditions: the lists are no longer than the row's own reach allows. -/
import Derived.Test.YtefoaikfpegggaaMapsBoth
import Derived.Test.YtefoaikfpegggaaPureFnExactMapsOf
namespace Go.Proofs.Ytefoaikfpegggaa.MapsLaw
open Go.RowKit Go.Proofs.YtefoaikfpegggaaW.PrintWords Go.Proofs.YtefoaikfpegggaaW.PrintLast Go.Proofs.YtefoaikfpegggaaW.PrintMore Go.Proofs.Ytefoaikfpegggaa.PureKit Go.Proofs.Ytefoaikfpegggaa.QFnExactMapsOf Go.Proofs.Ytefoaikfpegggaa.MarkSS Go.Proofs.Ytefoaikfpegggaa.MapsBoth Go.Proofs.Ytefoaikfpegggaa.PureFnExactMapsOf Go.Proofs.Ytefoaikfpegggaa.PureMaps
attribute [local go_sem] max2_int min2_int max_two min_two max_three min_three max_four min_four
set_option linter.unusedVariables false
set_option linter.unusedSimpArgs false

theorem eqC {w : World} {b1 b2 : Nat} {P1 P2 : Nat → Prop} {A B : Option Addr} {c d : Nat} {l : List ByteArray} (hl : l.length ≤ 40) (h1 : Kd.R Kd.string 9 w b1 P1 (.slice A l.length c) l) (h2 : Kd.R Kd.string 9 w b2 P2 (.slice B l.length d) l) :
    Calls Try.prog 24 #[.slice A l.length c, .slice B l.length d] w fun e w' => e = .returned (.bool true) ∧ Below w.heap.size w w' := by
  obtain ⟨k, hk⟩ := (eqS_ev l (by omega)).rounds
  obtain ⟨_, hc1, hr1⟩ := Kd.R_reads' h1
  obtain ⟨_, hc2, hr2⟩ := Kd.R_reads' h2
  refine (laws_eqStringS.calls k A c l B d l true w hr1 hc1 hr2 hc2 hk).mono ?_
  rintro e w' ⟨rfl, ⟨n, rfl⟩⟩
  exact ⟨rfl, pw_below_drewN (Below.refl _ _) n⟩

theorem heldC {w : World} {b : Nat} {P : Nat → Prop} {A : Option Addr} {c n : Nat} (hn : n ≤ 40) (h : Kd.R Kd.string 9 w b P (.slice A n c) (marks n)) :
    Calls Try.prog 27 #[.slice A n c, .int .i64 1] w fun e w' => e = .returned (.int .i64 (1 + (n : Int))) ∧ Below w.heap.size w w' := by
  obtain ⟨k, hk⟩ := (heldS_ev n (by omega)).rounds
  obtain ⟨_, hc, hr⟩ := Kd.R_reads' h
  have g := laws_heldStringS.calls k A c (marks n) 1 (1 + (n : Int)) w hr (by rw [marks_len]; exact hc) hk
  rwa [marks_len] at g

/-- The marks are written: nothing but the row changes. -/
theorem markC {w0 w : World} {P : Nat → Prop} {v : Value} {l : List ByteArray} (hl : l.length ≤ 40) (hB : Below w0.heap.size w0 w) (h : Kd.R Kd.string 9 w w0.heap.size P v l) :
    Calls Try.prog 26 #[v, .int .i64 1] w fun e w' => e = .returned (.int .i64 (1 + (l.length : Int))) ∧ Kd.R Kd.string 9 w' w0.heap.size (fun k => P k ∨ w.heap.size ≤ k) v (marks l.length) ∧ Below w0.heap.size w0 w' ∧ Kept w w' P := by
  obtain ⟨k, hk⟩ := (markS_ev l (by omega)).rounds
  exact laws_markStringS.calls k P v l 1 _ _ w0 w hB h hk

section
variable (a0 : Int) (A1 : Option Addr) (c1 : Nat) (x : List (List Int)) (A2 : Option Addr) (c2 : Nat) (y : List (List Int))
theorem ssC (hx : Fit x) (hle : x.length ≤ c1) (w : World) (hr : Kd.C (Kd.slice 2 (Kd.int .i64)) w A1 x.length x) : Calls Try.prog 30 #[.slice A1 x.length c1] w (SSPost w x) := by
  obtain ⟨k, hk⟩ := (toII_ev x hx.1 hx.2).rounds
  exact laws_toInt64SS.calls k A1 c1 x x w hr hle hk
theorem toC (hx : Fit x) (hy : Fit y) (hl1 : x.length ≤ c1) (hl2 : y.length ≤ c2) (w : World) (hr1 : Kd.C (Kd.slice 2 (Kd.int .i64)) w A1 x.length x) (hr2 : Kd.C (Kd.slice 2 (Kd.int .i64)) w A2 y.length y) :
    Calls Try.prog 11 #[.agg #[.int .i64 a0, .slice A1 x.length c1, .slice A2 y.length c2]] w (ToPost w a0 x y) :=
  toB_calls a0 A1 c1 x A2 c2 y w hr1 hr2 (fun w1 h => ssC A1 c1 x hx hl1 w1 h) (fun w1 h => ssC A2 c2 y hy hl2 w1 h)

/-- The law's own state: its box of the argument, and the reference's row. -/
structure Sa (w w1 : World) (s1 : Nat) (vw : Value) (l : List ByteArray) : Prop where
  below : Below w.heap.size w w1
  box : w1.heap[w.heap.size]? = some (.cells #[.int .i64 a0, .slice A1 x.length c1, .slice A2 y.length c2] 24 (0, 0))
  ref : Kd.R Kd.string 9 w1 w.heap.size (fun k => k < s1) vw l
  low : w.heap.size < s1
  top : s1 ≤ w1.heap.size

/-- The copy that the program was given, and its two rows. -/
structure Sx (w w1 : World) (s1 g m : Nat) (v1 v2 : Value) : Prop where
  box : w1.heap[g]? = some (.cells #[.int .i64 a0, v1, v2] 27 (0, 0))
  one : Kd.S (Kd.slice 2 (Kd.int .i64)) 48 w1 w.heap.size (fun k => s1 ≤ k ∧ k < m ∧ k < g) v1 x
  two : Kd.S (Kd.slice 2 (Kd.int .i64)) 48 w1 w.heap.size (fun k => s1 ≤ k ∧ m ≤ k ∧ k < g) v2 y
variable {a0 A1 c1 x A2 c2 y}
theorem Sa.step {w w1 w2 : World} {s1 : Nat} {vw : Value} {l : List ByteArray} (h : Sa a0 A1 c1 x A2 c2 y w w1 s1 vw l) (hb : Below w1.heap.size w1 w2) : Sa a0 A1 c1 x A2 c2 y w w2 s1 vw l :=
  ⟨below_step h.below hb, blk_below h.box hb, Kd.R_below h.ref hb, h.low, Nat.le_trans h.top hb.size⟩
theorem Sa.kept {w w1 w2 : World} {s1 : Nat} {vw : Value} {l : List ByteArray} {P : Nat → Prop} (h : Sa a0 A1 c1 x A2 c2 y w w1 s1 vw l) (hb : Below w.heap.size w w2) (hk : Kept w1 w2 P) (hP : ∀ k, P k → s1 ≤ k) : Sa a0 A1 c1 x A2 c2 y w w2 s1 vw l :=
  ⟨hb, blk_kept h.box hk (fun hp => by have := hP _ hp; have := h.low; omega), Kd.R_kept h.ref hk (fun k hlt hp => by have := hP _ hp; omega), h.low, Nat.le_trans h.top hk.1⟩
theorem Sa.set {w w1 : World} {s1 : Nat} {vw : Value} {l : List ByteArray} {g : Nat} (h : Sa a0 A1 c1 x A2 c2 y w w1 s1 vw l) (hg : s1 ≤ g) (j : Nat) (u : Value) : Sa a0 A1 c1 x A2 c2 y w (w1.setCell ⟨g, j, none⟩ u) s1 vw l :=
  h.kept (P := fun k => s1 ≤ k) (h.below.setCell (p := ⟨g, j, none⟩) (by have := h.low; show w.heap.size ≤ g; omega) u) (Kept.setCell (Kept.refl _ _) (.inl hg) u) (fun _ hk => hk)

theorem Sx.step {w w1 w2 : World} {s1 g m : Nat} {v1 v2 : Value} (h : Sx a0 x y w w1 s1 g m v1 v2) (hb : Below w1.heap.size w1 w2) : Sx a0 x y w w2 s1 g m v1 v2 :=
  ⟨blk_below h.box hb, Kd.S_below h.one hb, Kd.S_below h.two hb⟩

/-- A fresh copy is stored: what is known of it then. -/
theorem Sx.mk' {w w1 w2 : World} {s1 m : Nat} {v1 v2 : Value} (hs : w.heap.size ≤ w1.heap.size) (hs1 : s1 = w1.heap.size)
    (h1 : Kd.S (Kd.slice 2 (Kd.int .i64)) 48 w2 w1.heap.size (fun k => k < m) v1 x) (h2 : Kd.S (Kd.slice 2 (Kd.int .i64)) 48 w2 w1.heap.size (fun k => m ≤ k) v2 y) :
    Sx a0 x y w (w2.alloc (.cells #[.int .i64 a0, v1, v2] 27)) s1 w2.heap.size m v1 v2 := by
  have e1 := Kd.S_alloc (Kd.S_mono (Kd.S_bound h1) (ok' := fun k => s1 ≤ k ∧ k < m ∧ k < w2.heap.size) (fun k hk => ⟨by rw [hs1]; exact hk.2.1, hk.1, hk.2.2.1⟩)) (.cells #[.int .i64 a0, v1, v2] 27)
  have e2 := Kd.S_alloc (Kd.S_mono (Kd.S_bound h2) (ok' := fun k => s1 ≤ k ∧ m ≤ k ∧ k < w2.heap.size) (fun k hk => ⟨by rw [hs1]; exact hk.2.1, hk.1, hk.2.2.1⟩)) (.cells #[.int .i64 a0, v1, v2] 27)
  exact ⟨blk_new _ _, Kd.S_lower e1 hs, Kd.S_lower e2 hs⟩
set_option maxHeartbeats 8000000 in
set_option maxRecDepth 100000 in
theorem law_calls (hx : Fit x) (hy : Fit y) (w : World) (hr1 : Kd.C (Kd.slice 2 (Kd.int .i64)) w A1 x.length x) (hl1 : x.length ≤ c1) (hr2 : Kd.C (Kd.slice 2 (Kd.int .i64)) w A2 y.length y) (hl2 : y.length ≤ c2) :
    Calls Try.prog 8 #[.agg #[.int .i64 a0, .slice A1 x.length c1, .slice A2 y.length c2]] w fun e w' => e = .returned (.bool true) ∧ Below w.heap.size w w' := by
  have hu24 := Try.underlying24
  have hu27 := Try.underlying27
  obtain ⟨W0, hW0⟩ : ∃ W : World, W = w.alloc (.cells #[.int .i64 a0, .slice A1 x.length c1, .slice A2 y.length c2] 24) := ⟨_, rfl⟩
  have HB := Aside0.mk (show Below w.heap.size w W0 from hW0 ▸ below_alloc (Below.refl _ _) _)
  have B1 := Aside0.mk (show W0.heap[w.heap.size]? = some (.cells #[.int .i64 a0, .slice A1 x.length c1, .slice A2 y.length c2] 24 (0, 0)) from hW0 ▸ blk_new w _)
  have HW := Aside0.mk hW0
  obtain ⟨t, ht⟩ := sz_ev a0 x y hx hy 1048576
  obtain ⟨kt, hkt⟩ := ht.rounds
  have HSZ := Aside0.mk (laws_szBounds.calls kt a0 A1 c1 x A2 c2 y 1048576 t W0 (Kd.C_below hr1 HB.out) hl1 (Kd.C_below hr2 HB.out) hl2 hkt)
  have HTO := Aside0.mk (fun w1 (hb : Below w.heap.size w w1) => toC a0 A1 c1 x A2 c2 y hx hy hl1 hl2 w1 (Kd.C_below hr1 hb) (Kd.C_below hr2 hb))
  have HFIT := Aside0.mk (fun (h : 0 ≤ t) => sz_fits hx hy hkt h)
  obtain ⟨l, hl⟩ : ∃ l, l = (mo a0 x y).1 := ⟨_, rfl⟩
  obtain ⟨c, hc⟩ : ∃ c, c = (mo a0 x y).2 := ⟨_, rfl⟩
  have HL := Aside0.mk (show l.length ≤ 40 by rw [hl]; exact mo_len a0 x y)
  have HSMO := Aside0.mk (show ∀ (B1 : Option Addr) (d1 : Nat) (B2 : Option Addr) (d2 : Nat) (w : World) (h1 : Kd.C (Kd.slice 2 (Kd.int .i64)) w B1 x.length x) (h2 : Kd.C (Kd.slice 2 (Kd.int .i64)) w B2 y.length y), Calls Try.prog 22 #[.agg #[.int .i64 a0, .slice B1 x.length d1, .slice B2 y.length d2]] w (MoPost w l c) from by rw [hl, hc]; exact fun B1 d1 B2 d2 w h1 h2 => smo_calls a0 B1 d1 x B2 d2 y w h1 h2)
  have HIMO := Aside0.mk (show ∀ (B1 : Option Addr) (d1 : Nat) (B2 : Option Addr) (d2 : Nat) (w : World) (h1 : Kd.C (Kd.slice 2 (Kd.int .i64)) w B1 x.length x) (h2 : Kd.C (Kd.slice 2 (Kd.int .i64)) w B2 y.length y), Calls Try.prog 23 #[.agg #[.int .i64 a0, .slice B1 x.length d1, .slice B2 y.length d2]] w (MoPost w l c) from by rw [hl, hc]; exact fun B1 d1 B2 d2 w h1 h2 => imo_calls a0 B1 d1 x B2 d2 y w h1 h2)
  obtain ⟨ke, hke⟩ := (eq_ev a0 x y hx hy).rounds
  have HEQ := Aside0.mk hke
  clear hr1 hr2 hW0 ht hkt hl hc hx hy hl1 hl2 hke
  go_enter Try.func8, Try.ntmps8
  go_wp2_with fail
  rw [← HW.out]
  clear HW
  refine HSZ.out.mono ?_
  clear HSZ
  rintro e w1 ⟨rfl, hb⟩
  have n0_ := Aside0.mk (below_step HB.out hb)
  have n1_ := Aside0.mk (blk_below B1.out hb)
  clear HB B1 hb
  have HB := n0_
  have B1 := n1_
  clear n0_ n1_
  by_cases hn : t < 0
  · have hnb : decide (t < 0) = true := decide_eq_true hn
    go_wp2_with fail
    go_ret
    exact ⟨rfl, HB.out⟩
  have hnb : decide (t < 0) = false := decide_eq_false hn
  have HF := Aside0.mk (HFIT.out (by omega))
  clear HFIT hn
  have hb10 : w1.cell? ⟨w.heap.size, 0, none⟩ = some (.int .i64 a0) := (blk_cell B1.out 0).trans rfl
  have hb11 : w1.cell? ⟨w.heap.size, 1, none⟩ = some (.slice A1 x.length c1) := (blk_cell B1.out 1).trans rfl
  have hb12 : w1.cell? ⟨w.heap.size, 2, none⟩ = some (.slice A2 y.length c2) := (blk_cell B1.out 2).trans rfl
  go_wp2_with fail
  refine (HTO.out w1 HB.out).mono ?_
  clear hb10 hb11 hb12
  rintro e w2 ⟨m0, v1, v2, rfl, h1, h2, hb⟩
  obtain ⟨D1, d1, e1⟩ := Kd.S_slice h1
  obtain ⟨D2, d2, e2⟩ := Kd.S_slice h2
  subst e1
  subst e2
  have n0_ := Aside0.mk (below_step HB.out hb)
  have n1_ := Aside0.mk (blk_below B1.out hb)
  have HM := Aside0.mk (HSMO.out D1 d1 D2 d2 w2 (Kd.S_reads' h1).2.2 (Kd.S_reads' h2).2.2)
  clear HB B1 hb h1 h2 HSMO
  have HB := n0_
  have B1 := n1_
  clear n0_ n1_
  go_wp2_with fail
  refine HM.out.mono ?_
  clear HM
  rintro e w3 ⟨vw, rfl, hr, hb⟩
  obtain ⟨Aw, cw, ew⟩ := Kd.R_slice hr
  subst ew
  have HA := Aside0.mk (show Sa a0 A1 c1 x A2 c2 y w w3 w3.heap.size (.slice Aw l.length cw) l from ⟨below_step HB.out hb, blk_below B1.out hb, Kd.R_lower (Kd.R_mono (Kd.R_bound hr) (fun k hk => hk.2.2.1)) HB.out.size, blk_lt (blk_below B1.out hb), Nat.le_refl _⟩)
  obtain ⟨s1, hs1⟩ : ∃ s, s = w3.heap.size := ⟨_, rfl⟩
  rw [← hs1] at HA
  have HS1 := Aside0.mk hs1
  clear HB B1 hb hr hs1
  have hb10 : w3.cell? ⟨w.heap.size, 0, none⟩ = some (.int .i64 a0) := (blk_cell HA.out.box 0).trans rfl
  have hb11 : w3.cell? ⟨w.heap.size, 1, none⟩ = some (.slice A1 x.length c1) := (blk_cell HA.out.box 1).trans rfl
  have hb12 : w3.cell? ⟨w.heap.size, 2, none⟩ = some (.slice A2 y.length c2) := (blk_cell HA.out.box 2).trans rfl
  go_wp2_with fail
  refine (HTO.out w3 HA.out.below).mono ?_
  clear hb10 hb11 hb12
  rintro e w4 ⟨m, v1, v2, rfl, h1, h2, hb⟩
  obtain ⟨D1, d1, e1⟩ := Kd.S_slice h1
  obtain ⟨D2, d2, e2⟩ := Kd.S_slice h2
  subst e1
  subst e2
  have n0_ := Aside0.mk (HA.out.step hb)
  have HX1 := Aside0.mk h1
  have HX2 := Aside0.mk h2
  have HSW := Aside0.mk (show w.heap.size ≤ w3.heap.size from HA.out.below.size)
  clear HA hb h1 h2
  have HA := n0_
  clear n0_
  go_wp2_with fail
  have HX := Aside0.mk (Sx.mk' (a0 := a0) HSW.out HS1.out HX1.out HX2.out)
  have HG := Aside0.mk (show s1 ≤ w4.heap.size from HA.out.top)
  have n0_ := Aside0.mk (HA.out.step (below_alloc (Below.refl _ _) (.cells #[.int .i64 a0, .slice D1 x.length d1, .slice D2 y.length d2] 27)))
  clear HA HX1 HX2 HSW HS1
  have HA := n0_
  clear n0_
  generalize w4.alloc (.cells #[.int .i64 a0, .slice D1 x.length d1, .slice D2 y.length d2] 27) = w5 at HA HX ⊢
  generalize w4.heap.size = g at HX HG ⊢
  refine (HIMO.out D1 d1 D2 d2 w5 (Kd.S_reads' HX.out.one).2.2 (Kd.S_reads' HX.out.two).2.2).mono ?_
  rintro e w6 ⟨vg, rfl, hr, hb⟩
  obtain ⟨Ag, cg, eg⟩ := Kd.R_slice hr
  subst eg
  have HR := Aside0.mk (Kd.R_lower (Kd.R_mono (Kd.R_bound hr) (ok' := fun k => g < k) (fun k hk => Nat.lt_of_lt_of_le (blk_lt HX.out.box) hk.2.1)) HA.out.below.size)
  have n0_ := Aside0.mk (HA.out.step hb)
  have n1_ := Aside0.mk (HX.out.step hb)
  clear HA HX hb hr
  have HA := n0_
  have HX := n1_
  clear n0_ n1_
  go_wp2_with fail
  refine (eqC HL.out HR.out HA.out.ref).mono ?_
  rintro e w7 ⟨rfl, hb⟩
  have n0_ := Aside0.mk (HA.out.step hb)
  have n1_ := Aside0.mk (HX.out.step hb)
  have n2_ := Aside0.mk (Kd.R_below HR.out hb)
  clear HA HX HR hb
  have HA := n0_
  have HX := n1_
  have HR := n2_
  clear n0_ n1_ n2_
  have hcc : (c != c) = false := bne_self_eq_false' ..
  try go_wp2
  have hb := below_drew (Below.refl w7.heap.size w7)
  have n0_ := Aside0.mk (HA.out.step hb)
  have n1_ := Aside0.mk (HX.out.step hb)
  have n2_ := Aside0.mk (Kd.R_below HR.out hb)
  clear HA HX HR
  have HA := n0_
  have HX := n1_
  have HR := n2_
  clear n0_ n1_ n2_
  clear hb
  refine start_ (n := 5) (S := fun w' => w'.cell? ⟨g, 0, none⟩ = some (.int .i64 a0) ∧ w'.cell? ⟨g, 1, none⟩ = some (.slice D1 x.length d1) ∧ w'.cell? ⟨g, 2, none⟩ = some (.slice D2 y.length d2) ∧ w'.cell? ⟨w.heap.size, 0, none⟩ = some (.int .i64 a0) ∧ w'.cell? ⟨w.heap.size, 1, none⟩ = some (.slice A1 x.length c1) ∧ w'.cell? ⟨w.heap.size, 2, none⟩ = some (.slice A2 y.length c2)) (ds := []) #[false, false, false, false, false] (by kernel_rfl) rfl rfl ⟨(blk_cell HX.out.box 0).trans rfl, (blk_cell HX.out.box 1).trans rfl, (blk_cell HX.out.box 2).trans rfl, (blk_cell HA.out.box 0).trans rfl, (blk_cell HA.out.box 1).trans rfl, (blk_cell HA.out.box 2).trans rfl⟩ (fun hHeld => ?_)
  generalize w7.drew = w8 at HA HX HR hHeld ⊢
  refine take_ (i := 0) (N := some 41) (v := ?_) (a' := ?_) #[true, false, false, false, false] rfl rfl (by kernel_rfl) (fun _ _ _ h => h) (Or.inl ⟨by rfl, ?_⟩) hHeld ?_ ?_
  rotate_left
  · rintro w' ⟨s0, s1, s2, s3, s4, s5⟩
    go_simp
    with_reducible rfl
  rotate_left
  · simp only [Act.put, List.setIfInBounds_toArray, List.set_cons_zero, List.set_cons_succ, i64_w, i32_w]
    rfl
  refine take_ (i := 1) (N := some 42) (v := ?_) (a' := ?_) #[true, true, false, false, false] rfl rfl (by kernel_rfl) (fun _ _ _ h => h) (Or.inl ⟨by rfl, ?_⟩) hHeld ?_ ?_
  rotate_left
  · rintro w' ⟨s0, s1, s2, s3, s4, s5⟩
    go_simp
    with_reducible rfl
  rotate_left
  · simp only [Act.put, List.setIfInBounds_toArray, List.set_cons_zero, List.set_cons_succ, i64_w, i32_w]
    rfl
  refine one_ (i := 2) (N := some 43) #[true, true, true, false, false] rfl rfl (by kernel_rfl) (by decide) (fun K hK => ?_)
  refine goes_ Try.func11 (by kernel_rfl) rfl #[.agg #[.int .i64 a0, .slice A1 x.length c1, .slice A2 y.length c2]] (by rfl) rfl rfl (by (try simp only [List.map_toArray, List.map_cons, List.map_nil]); first | done | rfl) ?_
  refine (HTO.out _ HA.out.below).mono ?_
  rintro e w9 ⟨m1, u1, u2, rfl, h1, h2, hb⟩
  refine ⟨_, rfl, ?_⟩
  obtain ⟨E1, e1, q1⟩ := Kd.S_slice h1
  obtain ⟨E2, e2, q2⟩ := Kd.S_slice h2
  subst q1
  subst q2
  have n0_ := Aside0.mk (HA.out.step hb)
  have n1_ := Aside0.mk (HX.out.step hb)
  have n2_ := Aside0.mk (Kd.R_below HR.out hb)
  clear HA HX HR
  have HA := n0_
  have HX := n1_
  have HR := n2_
  clear n0_ n1_ n2_
  have HC1 := Aside0.mk (Kd.S_reads' h1).2
  have HC2 := Aside0.mk (Kd.S_reads' h2).2
  clear hb h1 h2
  refine hK.out _ _ ⟨(blk_cell HX.out.box 0).trans rfl, (blk_cell HX.out.box 1).trans rfl, (blk_cell HX.out.box 2).trans rfl, (blk_cell HA.out.box 0).trans rfl, (blk_cell HA.out.box 1).trans rfl, (blk_cell HA.out.box 2).trans rfl⟩ (fun hHeld => ?_)
  clear hK K
  refine norm_ (a' := ?_) ?_ ?_
  rotate_left
  · show Act.put _ (some 43) _ = _
    simp only [Act.put, List.setIfInBounds_toArray, List.set_cons_zero, List.set_cons_succ, i64_w, i32_w]
    rfl
  refine one_ (i := 3) (N := some 44) #[true, true, true, true, false] rfl rfl (by kernel_rfl) (by decide) (fun K hK => ?_)
  refine goes_ Try.func13 (by kernel_rfl) rfl #[.agg #[.int .i64 a0, .slice D1 x.length d1, .slice D2 y.length d2], .agg #[.int .i64 a0, .slice E1 x.length e1, .slice E2 y.length e2]] (by rfl) rfl rfl (by (try simp only [List.map_toArray, List.map_cons, List.map_nil]); first | done | rfl) ?_
  with_reducible refine (laws_eqBounds.calls ke a0 _ _ x _ _ y a0 _ _ x _ _ y true _ ?side1 ?side2 ?side3 ?side4 ?side5 ?side6 ?side7 ?side8 HEQ.out).mono ?_
  (case side1 => exact (Kd.S_reads' HX.out.one).2.2)
  (case side2 => exact (Kd.S_reads' HX.out.one).2.1)
  (case side3 => exact (Kd.S_reads' HX.out.two).2.2)
  (case side4 => exact (Kd.S_reads' HX.out.two).2.1)
  (case side5 => exact HC1.out.2)
  (case side6 => exact HC1.out.1)
  (case side7 => exact HC2.out.2)
  (case side8 => exact HC2.out.1)
  rintro e w10 ⟨rfl, hb⟩
  refine ⟨_, rfl, ?_⟩
  have n0_ := Aside0.mk (HA.out.step hb)
  have n1_ := Aside0.mk (HX.out.step hb)
  have n2_ := Aside0.mk (Kd.R_below HR.out hb)
  clear HA HX HR
  have HA := n0_
  have HX := n1_
  have HR := n2_
  clear n0_ n1_ n2_
  clear hb HC1 HC2
  refine hK.out _ _ ⟨(blk_cell HX.out.box 0).trans rfl, (blk_cell HX.out.box 1).trans rfl, (blk_cell HX.out.box 2).trans rfl, (blk_cell HA.out.box 0).trans rfl, (blk_cell HA.out.box 1).trans rfl, (blk_cell HA.out.box 2).trans rfl⟩ (fun hHeld => ?_)
  clear hK K
  refine norm_ (a' := ?_) ?_ ?_
  rotate_left
  · show Act.put _ (some 44) _ = _
    simp only [Act.put, List.setIfInBounds_toArray, List.set_cons_zero, List.set_cons_succ, i64_w, i32_w]
    rfl
  refine pure_ (i := 4) (N := some 45) (v := ?_) (a' := ?_) #[true, true, true, true, true] rfl rfl (by kernel_rfl) (fun _ _ _ h => h) (Or.inl ⟨by rfl, ?_⟩) ?_ ?_
  rotate_left
  · intro w'
    go_simp
    with_reducible rfl
  rotate_left
  · simp only [Act.put, List.setIfInBounds_toArray, List.set_cons_zero, List.set_cons_succ, i64_w, i32_w]
    rfl
  refine done_ (by kernel_rfl) ?_
  clear hHeld
  have hx0 : w10.cell? ⟨g, 0, none⟩ = some (.int .i64 a0) := (blk_cell HX.out.box 0).trans rfl
  have hx1 : w10.cell? ⟨g, 1, none⟩ = some (.slice D1 x.length d1) := (blk_cell HX.out.box 1).trans rfl
  have hx2 : w10.cell? ⟨g, 2, none⟩ = some (.slice D2 y.length d2) := (blk_cell HX.out.box 2).trans rfl
  obtain ⟨kk, hkk⟩ : ∃ k, k = 1 + (tot x : Int) + tot y := ⟨_, rfl⟩
  have hkb : decide (kk < 0) = false := decide_eq_false (by omega)
  have HK := Aside0.mk (markB_calls (fun k => s1 ≤ k ∧ k < m ∧ k < g) (fun k => s1 ≤ k ∧ m ≤ k ∧ k < g) a0 _ _ x y w w10 HA.out.below HX.out.one HX.out.two (fun k h2 h1 => by have := h2.2.1; have := h1.2.1; omega) (fun k h => by have := blk_lt HX.out.box; rcases h with h | h <;> have := h.2.2 <;> omega) HF.out.1 HF.out.2.1 HF.out.2.2)
  rw [← hkk] at HK
  clear hkk HF
  go_wp2_with fail
  refine HK.out.mono ?_
  rintro e w11 ⟨rfl, hb, hk⟩
  clear HK hx0 hx1 hx2
  have n0_ := Aside0.mk (HA.out.kept hb hk (fun k hk => by rcases hk with hk | hk <;> exact hk.1))
  have n2_ := Aside0.mk (Kd.R_kept HR.out hk (fun k hgk hk => by rcases hk with hk | hk <;> have := hk.2.2 <;> omega))
  clear HA HR HX hb hk
  have HA := n0_
  have HR := n2_
  clear n0_ n2_
  go_wp2_with fail
  refine (eqC HL.out HR.out HA.out.ref).mono ?_
  rintro e w12 ⟨rfl, hb⟩
  have n0_ := Aside0.mk (HA.out.step hb)
  have n2_ := Aside0.mk (Kd.R_below HR.out hb)
  clear HA HR hb
  have HA := n0_
  have HR := n2_
  clear n0_ n2_
  go_wp2_with fail
  refine (markC HL.out HA.out.below HR.out).mono ?_
  rintro e w13 ⟨rfl, hr, hb, hk⟩
  have n0_ := Aside0.mk (HA.out.kept hb hk (fun k hk => by have := HG.out; omega))
  have n2_ := Aside0.mk hr
  clear HA HR hr hb hk
  have HA := n0_
  have HR := n2_
  clear n0_ n2_
  obtain ⟨q, hq⟩ : ∃ q, q = 1 + (l.length : Int) := ⟨_, rfl⟩
  have hqb : decide (q < 0) = false := decide_eq_false (by omega)
  have hqq : (q != q) = false := bne_self_eq_false' ..
  have HHE := Aside0.mk (fun (w : World) (b : Nat) (P : Nat → Prop) (h : Kd.R Kd.string 9 w b P (.slice Ag l.length cg) (marks l.length)) => heldC HL.out h)
  rw [← hq] at HHE ⊢
  clear hq
  go_wp2_with fail
  refine (HHE.out _ _ _ HR.out).mono ?_
  rintro e w14 ⟨rfl, hb⟩
  have n0_ := Aside0.mk (HA.out.step hb)
  have n2_ := Aside0.mk (Kd.R_below HR.out hb)
  clear HA HR hb
  have HA := n0_
  have HR := n2_
  clear n0_ n2_
  have hb10 : w14.cell? ⟨w.heap.size, 0, none⟩ = some (.int .i64 a0) := (blk_cell HA.out.box 0).trans rfl
  have hb11 : w14.cell? ⟨w.heap.size, 1, none⟩ = some (.slice A1 x.length c1) := (blk_cell HA.out.box 1).trans rfl
  have hb12 : w14.cell? ⟨w.heap.size, 2, none⟩ = some (.slice A2 y.length c2) := (blk_cell HA.out.box 2).trans rfl
  go_wp2_with fail
  refine (HTO.out _ HA.out.below).mono ?_
  clear hb10 hb11 hb12
  rintro e w15 ⟨m2, u1, u2, rfl, h1, h2, hb⟩
  obtain ⟨E1, e1, q1⟩ := Kd.S_slice h1
  obtain ⟨E2, e2, q2⟩ := Kd.S_slice h2
  subst q1
  subst q2
  have n0_ := Aside0.mk (HA.out.step hb)
  have n2_ := Aside0.mk (Kd.R_below HR.out hb)
  have HM := Aside0.mk (HIMO.out E1 e1 E2 e2 w15 (Kd.S_reads' h1).2.2 (Kd.S_reads' h2).2.2)
  clear HA HR hb h1 h2
  have HA := n0_
  have HR := n2_
  clear n0_ n2_
  go_wp2_with fail
  refine HM.out.mono ?_
  rintro e w16 ⟨vh, rfl, hr, hb⟩
  obtain ⟨Ah, ch, eh⟩ := Kd.R_slice hr
  subst eh
  have HH := Aside0.mk hr
  have n0_ := Aside0.mk (HA.out.step hb)
  have n2_ := Aside0.mk (Kd.R_below HR.out hb)
  clear HA HR hb hr HM
  have HA := n0_
  have HR := n2_
  clear n0_ n2_
  go_wp2_with fail
  refine (eqC HL.out HH.out HA.out.ref).mono ?_
  rintro e w17 ⟨rfl, hb⟩
  have n0_ := Aside0.mk (HA.out.step hb)
  have n2_ := Aside0.mk (Kd.R_below HR.out hb)
  clear HA HR hb HH
  have HA := n0_
  have HR := n2_
  clear n0_ n2_
  go_wp2_with fail
  refine (HHE.out _ _ _ HR.out).mono ?_
  rintro e w18 ⟨rfl, hb⟩
  have HB := Aside0.mk (below_step HA.out.below hb)
  clear HA HR hb
  go_wp2_with fail
  go_ret
  exact ⟨rfl, HB.out⟩
end
end Go.Proofs.Ytefoaikfpegggaa.MapsLaw
