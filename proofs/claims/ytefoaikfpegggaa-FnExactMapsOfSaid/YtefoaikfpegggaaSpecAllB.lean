/- What is proved: contracts of the reference's functions l05Map, l00Same, find, l05All, product: a call of each returns what the Lean function '.f' of its name says. Conditions: as each theorem '.calls' states. Written by a program of this session after the kit's print. -/
import Derived.Test.YtefoaikfpegggaaSpecAllA
namespace Go.Proofs.Ytefoaikfpegggaa.SpecAll
open Go.RowKit Go.Proofs.YtefoaikfpegggaaW.PrintWords Go.Proofs.YtefoaikfpegggaaW.PrintLast Go.Proofs.YtefoaikfpegggaaW.PrintMore
attribute [local go_sem] max2_int min2_int max_two min_two max_three min_three max_four min_four   -- for this text's walks alone
set_option linter.unusedVariables false
set_option linter.unusedSimpArgs false

/-! ### spec_l05All: function 43 -/
mutual
def spec_l05All.l0 : Nat → Int → Int → List (List Int) → List (List Int) → List ByteArray → List (List Int) → Option (List ByteArray × (List (List Int)) × Int × Int)
  | 0, _, _, _, _, _, _ => none
  | k + 1, x5, x1000, x1001, x1002, x160000, x160001 => if x5 < (x160000.length : Int) then (spec_l05All.l1 k x5 97 x1000 x1001 x1002 x160000 x160001) else (spec_l05All.l2 k 97 x1000 x1001 x1002 x160000 x160001 ([] : List Int))
def spec_l05All.l1 : Nat → Int → Int → Int → List (List Int) → List (List Int) → List ByteArray → List (List Int) → Option (List ByteArray × (List (List Int)) × Int × Int)
  | 0, _, _, _, _, _, _, _ => none
  | k + 1, x5, x6, x1000, x1001, x1002, x160000, x160001 => if x6 ≤ 100 then (if 0 ≤ x5 then (if x5 < (x160000.length : Int) then ((some (([x6] : List Int) : List Int)).bind fun y161 => (if (rdOf ByteArray.empty x160000 x5).size + (strOfNums y161).size ≤ 9223372036854775807 then ((spec_l05Map.f k x1000 x1001 x1002 ((rdOf ByteArray.empty x160000 x5) ++ (strOfNums y161))).bind fun bt164 => ((spec_l05Maps_find.f k x160001 bt164.1).bind fun t168 => (if t168 < 0 then (if x160000.length < 8796093022208 then (if x160001.length < 5864062014805 then (spec_l05All.l1 k x5 ((x6 + 1) % 256) bt164.2 x1001 x1002 (x160000 ++ [(rdOf ByteArray.empty x160000 x5) ++ (strOfNums y161)]) (x160001 ++ [bt164.1])) else (none)) else (none)) else (spec_l05All.l1 k x5 ((x6 + 1) % 256) bt164.2 x1001 x1002 x160000 x160001)))) else (none))) else (none)) else (none)) else (if (x160000.length : Int) > 40 then (some (x160000, x160001, 3, x1000)) else (spec_l05All.l0 k (wrap64 (x5 + 1)) x1000 x1001 x1002 x160000 x160001))
def spec_l05All.l2 : Nat → Int → Int → List (List Int) → List (List Int) → List ByteArray → List (List Int) → List Int → Option (List ByteArray × (List (List Int)) × Int × Int)
  | 0, _, _, _, _, _, _, _ => none
  | k + 1, x9, x1000, x1001, x1002, x160000, x160001, x160002 => if x9 ≤ 100 then ((spec_l05Map.f k x1000 x1001 x1002 (strOfNums (([x9] : List Int)))).bind fun bt178 => ((spec_l05Maps_find.f k x160001 bt178.1).bind fun t182 => (if x160002.length < 17592186044416 then (spec_l05All.l2 k ((x9 + 1) % 256) bt178.2 x1001 x1002 x160000 x160001 (x160002 ++ [t182])) else (none)))) else (some (x160000, x160001, 0, x1000))
end
def spec_l05All.f (k : Nat) (s0_0 : Int) (s0_1 : List (List Int)) (s0_2 : List (List Int)) : Option (List ByteArray × (List (List Int)) × Int × Int) := (spec_l05Map.f k s0_0 s0_1 s0_2 (⟨#[]⟩ : ByteArray)).bind fun bt152 => (spec_l05All.l0 k 0 bt152.2 s0_1 s0_2 (([(⟨#[]⟩ : ByteArray)] : List ByteArray)) (([bt152.1] : List (List Int))))
theorem spec_l05All.mono_l : ∀ k, (∀ y0 y1 y2 y3 y4 y5, LeO (spec_l05All.l0 k y0 y1 y2 y3 y4 y5) (spec_l05All.l0 (k + 1) y0 y1 y2 y3 y4 y5)) ∧ (∀ y0 y1 y2 y3 y4 y5 y6, LeO (spec_l05All.l1 k y0 y1 y2 y3 y4 y5 y6) (spec_l05All.l1 (k + 1) y0 y1 y2 y3 y4 y5 y6)) ∧ (∀ y0 y1 y2 y3 y4 y5 y6, LeO (spec_l05All.l2 k y0 y1 y2 y3 y4 y5 y6) (spec_l05All.l2 (k + 1) y0 y1 y2 y3 y4 y5 y6))
  | 0 => ⟨fun _ _ _ _ _ _ r h => by simp [spec_l05All.l0] at h, fun _ _ _ _ _ _ _ r h => by simp [spec_l05All.l1] at h, fun _ _ _ _ _ _ _ r h => by simp [spec_l05All.l2] at h⟩
  | k + 1 => by
    obtain ⟨ih0, ih1, ih2⟩ := spec_l05All.mono_l k
    refine ⟨?_, ?_, ?_⟩
    · intro y0 y1 y2 y3 y4 y5
      unfold spec_l05All.l0
      repeat' first
      | (with_reducible exact ih0 _ _ _ _ _ _)
      | (with_reducible exact ih1 _ _ _ _ _ _ _)
      | (with_reducible exact ih2 _ _ _ _ _ _ _)
      | (with_reducible exact spec_l05Map.mono _ _ _ _ _)
      | (with_reducible exact spec_l05Maps_find.mono _ _ _)
      | (with_reducible exact LeO.refl _)
      | (with_reducible exact LeO.none _)
      | (with_reducible refine LeO.ite ?_ ?_)
      | (with_reducible refine LeO.bind ?_ (fun _ => ?_))
      | exact ih0 _ _ _ _ _ _
      | exact ih1 _ _ _ _ _ _ _
      | exact ih2 _ _ _ _ _ _ _
      | exact spec_l05Map.mono _ _ _ _ _
      | exact spec_l05Maps_find.mono _ _ _
      | exact LeO.none _
      | refine LeO.ite ?_ ?_
      | refine LeO.bind ?_ (fun _ => ?_)
    · intro y0 y1 y2 y3 y4 y5 y6
      unfold spec_l05All.l1
      repeat' first
      | (with_reducible exact ih0 _ _ _ _ _ _)
      | (with_reducible exact ih1 _ _ _ _ _ _ _)
      | (with_reducible exact ih2 _ _ _ _ _ _ _)
      | (with_reducible exact spec_l05Map.mono _ _ _ _ _)
      | (with_reducible exact spec_l05Maps_find.mono _ _ _)
      | (with_reducible exact LeO.refl _)
      | (with_reducible exact LeO.none _)
      | (with_reducible refine LeO.ite ?_ ?_)
      | (with_reducible refine LeO.bind ?_ (fun _ => ?_))
      | exact ih0 _ _ _ _ _ _
      | exact ih1 _ _ _ _ _ _ _
      | exact ih2 _ _ _ _ _ _ _
      | exact spec_l05Map.mono _ _ _ _ _
      | exact spec_l05Maps_find.mono _ _ _
      | exact LeO.none _
      | refine LeO.ite ?_ ?_
      | refine LeO.bind ?_ (fun _ => ?_)
    · intro y0 y1 y2 y3 y4 y5 y6
      unfold spec_l05All.l2
      repeat' first
      | (with_reducible exact ih0 _ _ _ _ _ _)
      | (with_reducible exact ih1 _ _ _ _ _ _ _)
      | (with_reducible exact ih2 _ _ _ _ _ _ _)
      | (with_reducible exact spec_l05Map.mono _ _ _ _ _)
      | (with_reducible exact spec_l05Maps_find.mono _ _ _)
      | (with_reducible exact LeO.refl _)
      | (with_reducible exact LeO.none _)
      | (with_reducible refine LeO.ite ?_ ?_)
      | (with_reducible refine LeO.bind ?_ (fun _ => ?_))
      | exact ih0 _ _ _ _ _ _
      | exact ih1 _ _ _ _ _ _ _
      | exact ih2 _ _ _ _ _ _ _
      | exact spec_l05Map.mono _ _ _ _ _
      | exact spec_l05Maps_find.mono _ _ _
      | exact LeO.none _
      | refine LeO.ite ?_ ?_
      | refine LeO.bind ?_ (fun _ => ?_)
theorem spec_l05All.mono : ∀ a0 a1 a2 k, LeO (spec_l05All.f k a0 a1 a2) (spec_l05All.f (k + 1) a0 a1 a2) := by
  intro a0 a1 a2 k
  obtain ⟨ih0, ih1, ih2⟩ := spec_l05All.mono_l k
  unfold spec_l05All.f
  repeat' first
      | (with_reducible exact ih0 _ _ _ _ _ _)
      | (with_reducible exact ih1 _ _ _ _ _ _ _)
      | (with_reducible exact ih2 _ _ _ _ _ _ _)
      | (with_reducible exact spec_l05Map.mono _ _ _ _ _)
      | (with_reducible exact spec_l05Maps_find.mono _ _ _)
      | (with_reducible exact LeO.refl _)
      | (with_reducible exact LeO.none _)
      | (with_reducible refine LeO.ite ?_ ?_)
      | (with_reducible refine LeO.bind ?_ (fun _ => ?_))
      | exact ih0 _ _ _ _ _ _
      | exact ih1 _ _ _ _ _ _ _
      | exact ih2 _ _ _ _ _ _ _
      | exact spec_l05Map.mono _ _ _ _ _
      | exact spec_l05Maps_find.mono _ _ _
      | exact LeO.none _
      | refine LeO.ite ?_ ?_
      | refine LeO.bind ?_ (fun _ => ?_)
def spec_l05All.T8 : Bool × List (List Nat × List Nat) := (true, [([], []), ([0], [0]), ([1], [1]), ([2], [2]), ([], []), ([3, 4], [3, 4]), ([5], [5]), ([], []), ([7], [7]), ([8], [8]), ([6, 9], [6, 9]), ([10, 0, 1, 2, 3, 4, 5, 6, 7, 8, 9, 10], [10])])
def spec_l05All.B8 : List Nat := [0, 1, 3, 7, 0, 31, 63, 0, 128, 384, 1023, 2047]
theorem spec_l05All.tab8 : rtab .any (opsOf Try.f43 8) = spec_l05All.T8 := by kernel_rfl
theorem spec_l05All.bits8 : waitsOk spec_l05All.T8.2 spec_l05All.B8 = true := by kernel_rfl
def spec_l05All.T18 : Bool × List (List Nat × List Nat) := (true, [([], []), ([], []), ([1], [1]), ([2], [2]), ([3], [3]), ([], []), ([], []), ([], []), ([7], [7]), ([8], [8]), ([6, 9], [6, 9]), ([5, 10, 10], [5, 10]), ([11], [11]), ([4, 12, 11], [4, 12]), ([0, 0, 1, 2, 3, 4, 5, 6, 7, 8, 9, 10, 11, 12, 13], [0]), ([14, 0, 1, 2, 3, 4, 5, 6, 7, 8, 9, 10, 11, 12, 13], [14]), ([15, 13, 13, 0, 1, 2, 3, 4, 5, 6, 7, 8, 9, 10, 11, 12, 13], [13, 15])])
def spec_l05All.B18 : List Nat := [0, 0, 2, 6, 14, 0, 0, 0, 128, 384, 960, 2016, 4064, 8190, 16383, 32767, 65535]
theorem spec_l05All.tab18 : rtab .any (opsOf Try.f43 18) = spec_l05All.T18 := by kernel_rfl
theorem spec_l05All.bits18 : waitsOk spec_l05All.T18.2 spec_l05All.B18 = true := by kernel_rfl
set_option maxHeartbeats 8000000 in
set_option maxRecDepth 100000 in
theorem spec_l05All.calls (k : Nat) (g : Nat) (s0_0 : Int) (s0_1 : List (List Int)) (s0_2 : List (List Int)) (r1 : List ByteArray) (r2 : List (List Int)) (r3 : Int) (r4 : Int) (w0 w : World) (hI : IsS27 w0 w g s0_0 s0_1 s0_2) (hB : Below w0.heap.size w0 w) (h : spec_l05All.f k s0_0 s0_1 s0_2 = some (r1, r2, r3, r4)) :
    Calls Try.prog 43 #[.pointer (some ⟨g, 0, none⟩)] w fun e w' => ∃ (g_ : Nat) (v0_ v1_ v2_ : Value), e = .returned (.tuple #[.pointer (some ⟨g_, 0, none⟩), .int .i64 r3]) ∧ w'.heap[g_]? = some (.cells #[v0_, v1_, v2_] 62 (0, 0)) ∧ w.heap.size ≤ g_ ∧ Kd.R Kd.string 9 w' w.heap.size (fun k_ => (w.heap.size ≤ k_)) v0_ r1 ∧ Kd.N (Kd.slice 2 (Kd.int .i64)) 48 w' w.heap.size (fun k_ => (w.heap.size ≤ k_) ∧ some k_ ≠ (v0_ : Value).ownBlock) v1_ r2 ∧ IsS27 w0 w' g r4 s0_1 s0_2 ∧ Below w0.heap.size w0 w' ∧ KeepBut w w' g none := by
  have hu62 := Try.underlying62
  have HI0 := Aside0.mk hI
  have HK := Aside0.mk (KeepBut.refl w g none)
  have HL := Aside0.mk hB.size
  clear hI
  have HW0 := Aside0.mk hB.size
  have HB := Aside0.mk hB
  clear hB
  have H : ((spec_l05Map.f k s0_0 s0_1 s0_2 (⟨#[]⟩ : ByteArray)).bind fun bt152 => (spec_l05All.l0 k 0 bt152.2 s0_1 s0_2 (([(⟨#[]⟩ : ByteArray)] : List ByteArray)) (([bt152.1] : List (List Int))))) = some (r1, r2, r3, r4) := h
  clear h
  obtain ⟨y149, hy149⟩ : ∃ y_ : List ByteArray, y_ = (([(⟨#[]⟩ : ByteArray)] : List ByteArray)) := ⟨_, rfl⟩
  replace H : ((spec_l05Map.f k s0_0 s0_1 s0_2 (⟨#[]⟩ : ByteArray)).bind fun bt152 => (spec_l05All.l0 k 0 bt152.2 s0_1 s0_2 y149 (([bt152.1] : List (List Int))))) = some (r1, r2, r3, r4) := by first | (rw [hy149]; with_reducible exact H) | (have H2_ := (Option.bind_some _ _).symm.trans H; rw [hy149]; with_reducible exact H2_) | (have H2_ := (Option.bind_some _ _).symm.trans H; with_reducible exact H2_) | with_reducible exact H | (rw [hy149]; exact H) | exact H
  have Ny149 := Aside0.mk hy149
  clear hy149
  replace H := Option.bind_eq_some_iff.mp H
  obtain ⟨⟨t152, t155⟩, A20, H⟩ := H
  replace H : (spec_l05All.l0 k 0 t155 s0_1 s0_2 y149 (([t152] : List (List Int)))) = some (r1, r2, r3, r4) := H
  have A2 := Aside0.mk A20
  clear A20
  obtain ⟨y156, hy156⟩ : ∃ y_ : List (List Int), y_ = (([t152] : List (List Int))) := ⟨_, rfl⟩
  replace H : (spec_l05All.l0 k 0 t155 s0_1 s0_2 y149 y156) = some (r1, r2, r3, r4) := by first | (rw [hy156]; with_reducible exact H) | (have H2_ := (Option.bind_some _ _).symm.trans H; rw [hy156]; with_reducible exact H2_) | (have H2_ := (Option.bind_some _ _).symm.trans H; with_reducible exact H2_) | with_reducible exact H | (rw [hy156]; exact H) | exact H
  have Ny156 := Aside0.mk hy156
  clear hy156
  have H' := Aside0.mk H
  clear H
  go_enter Try.func43, Try.ntmps43
  go_wp2_with (first | ((with_reducible refine gate_dst (N := 10) rfl ?_); refine Kd.R_lit Kd.string _ 9 ?hg (N := 10) ?hd (xs := ([(⟨#[]⟩ : ByteArray)] : List ByteArray)) (inner := [.string (⟨#[]⟩ : ByteArray)]) (ok := fun _ => True) (okp := fun _ => True) ?hr ?hp (fun _ hk => hk) trivial (Below.refl _ _) (Nat.le_refl _) (by simp) ?_; (case hd => rfl); (case hg => rfl); (case hr => first | (go_simp; done) | (go_simp; rfl)); (case hp => exact (Reps.one (show Kd.M Kd.string _ _ _ (⟨#[]⟩ : ByteArray) [.string (⟨#[]⟩ : ByteArray)] from rfl) (Reps.none _ _))); intro v150 w3 ho4 hb hg_ hnew_; clear hg_ hnew_; (first | rw [← Ny149.out] at ho4 | (simp only [Int.reduceToNat] at ho4; rw [← Ny149.out] at ho4)); have n0_ := Aside0.mk (Kd.R_lower (Kd.R_newM (M := fun k_ => (w.heap.size ≤ k_)) ho4 (keep_size (w := w) (g := g) (row := none) (by repeat (first | (with_reducible first | exact HK.out | apply KeepBut.set_ | apply keep_drewN | apply keep_drew | apply keep_alloc) | exact HK.out))) (fun k_ h_ => h_)) (keep_size (w := w) (g := g) (row := none) (by repeat (first | (with_reducible first | exact HK.out | apply KeepBut.set_ | apply keep_drewN | apply keep_drew | apply keep_alloc) | exact HK.out)))); have n1_ := Aside0.mk (IsS27.below (by repeat (first | (with_reducible first | exact HI0.out | apply IsS27.alloc | apply IsS27.drewN | apply IsS27.drew | apply IsS27.set_0) | exact HI0.out)) hb); have n2_ := Aside0.mk (KeepBut.trans (by repeat (first | (with_reducible first | exact HK.out | apply KeepBut.set_ | apply keep_drewN | apply keep_drew | apply keep_alloc) | exact HK.out)) (KeepBut.of_below hb g none) (.inl rfl)); have n3_ := Aside0.mk (below_step (by repeat (first | (with_reducible first | exact HB.out | apply below_alloc | apply pw_below_drewN | apply below_drew1 | refine below_set ?_ (IsS27.ge HI0.out)) | exact HB.out)) hb); clear HI0; clear HK; clear HB; have HO151 := n0_; have HI0 := n1_; have HK := n2_; have HB := n3_; clear n0_ n1_ n2_ n3_; clear hb ho4) | ((with_reducible refine gate_callee (f := 57) rfl ?_); refine goesL_ (some 12) rfl rfl Try.func57 (by kernel_rfl) rfl #[.pointer (some ⟨g, 0, none⟩), .string (⟨#[]⟩ : ByteArray)] rfl (by (try simp only [List.map_toArray, List.map_cons, List.map_nil]); first | done | rfl | (simp only [List.length_drop, List.length_take]; rfl)) ?_; (with_reducible refine (spec_l05Map.calls k g s0_0 s0_1 s0_2 (⟨#[]⟩ : ByteArray) t152 t155 w0 _ ?side1 ?side2 A2.out).mono ?_); (case side1 => repeat (first | (with_reducible first | exact HI0.out | apply IsS27.alloc | apply IsS27.drewN | apply IsS27.drew | apply IsS27.set_0) | exact HI0.out)); (case side2 => repeat (first | (with_reducible first | exact HB.out | apply below_alloc | apply pw_below_drewN | apply below_drew1 | refine below_set ?_ (IsS27.ge HI0.out)) | exact HB.out)); rintro e w5 ⟨v153, rfl, ho0, hi, hb, hk⟩; refine ⟨_, rfl, ?_⟩; have n0_ := Aside0.mk (Kd.R_mono (Kd.R_keep (IsS27.apart (show IsS27 w0 _ g s0_0 s0_1 s0_2 from by repeat (first | (with_reducible first | exact HI0.out | apply IsS27.alloc | apply IsS27.drewN | apply IsS27.drew | apply IsS27.set_0) | exact HI0.out)) (by (with_reducible repeat (first | apply Kd.R_alloc | apply Kd.R_drewN | apply Kd.R_drew)); exact HO151.out) (by decide)) hk (fun _ h => h.2)) (fun _ h => h.1)); have n1_ := Aside0.mk (Kd.R_lower (Kd.R_newM (M := fun k_ => (w.heap.size ≤ k_)) ho0 (keep_size (w := w) (g := g) (row := none) (by repeat (first | (with_reducible first | exact HK.out | apply KeepBut.set_ | apply keep_drewN | apply keep_drew | apply keep_alloc) | exact HK.out))) (fun k_ h_ => h_)) (keep_size (w := w) (g := g) (row := none) (by repeat (first | (with_reducible first | exact HK.out | apply KeepBut.set_ | apply keep_drewN | apply keep_drew | apply keep_alloc) | exact HK.out)))); have n2_ := Aside0.mk (KeepBut.trans (by repeat (first | (with_reducible first | exact HK.out | apply KeepBut.set_ | apply keep_drewN | apply keep_drew | apply keep_alloc) | exact HK.out)) hk (.inl rfl)); have n3_ := Aside0.mk (hb); have n4_ := Aside0.mk (hi); clear HO151; clear HK; clear HB; clear HI0; have HO151 := n0_; have HO154 := n1_; have HK := n2_; have HB := n3_; have HI0 := n4_; clear n0_ n1_ n2_ n3_ n4_; (try clear hb); (try clear hb2); (try clear hk); (try clear hi); (try clear ho0); obtain ⟨Ao6, co6, eo6⟩ := Kd.R_slice HO154.out; subst eo6) | ((with_reducible refine gate_dst (N := 13) rfl ?_); refine Kd.N_lit (Kd.slice 2 (Kd.int .i64)) _ 48 ?hg (N' := 13) ?hd (xs := ([t152] : List (List Int))) (inner := [.slice Ao6 t152.length co6]) (ok := (fun k_ => (w.heap.size ≤ k_) ∧ some k_ ≠ (v150 : Value).ownBlock ∧ k_ ≠ g)) (okp := (fun k_ => (w.heap.size ≤ k_) ∧ some k_ ≠ (v150 : Value).ownBlock ∧ k_ ≠ g)) ?hr ?hp (fun _ hk => hk) ((show ∀ k_, w5.heap.size ≤ k_ → (fun k_ => (w.heap.size ≤ k_) ∧ some k_ ≠ (v150 : Value).ownBlock ∧ k_ ≠ g) k_ from fun k_ hk => ⟨(Nat.le_trans (keep_size (w := w) (g := g) (row := none) (by repeat (first | (with_reducible first | exact HK.out | apply KeepBut.set_ | apply keep_drewN | apply keep_drew | apply keep_alloc) | exact HK.out))) hk), Kd.fresh' (Kd.R_lt (by (with_reducible repeat (first | apply Kd.R_alloc | apply Kd.R_drewN | apply Kd.R_drew)); exact HO151.out)) k_ hk, IsS27.fresh (by repeat (first | (with_reducible first | exact HI0.out | apply IsS27.alloc | apply IsS27.drewN | apply IsS27.drew | apply IsS27.set_0) | exact HI0.out)) k_ hk⟩) _ (Nat.le_refl _)) (Below.refl _ _) (Nat.le_refl _) (by simp) ?_; (case hd => rfl); (case hg => rfl); (case hr => first | (go_simp; done) | (go_simp; rfl)); (case hp => exact (Reps.one (show Kd.FK (Kd.slice 2 (Kd.int .i64)) _ _ t152 [.slice Ao6 t152.length co6] from (Kd.FK_slice_mk (Kd.R_reads' (Kd.R_mono (ok' := (fun k_ => (w.heap.size ≤ k_) ∧ some k_ ≠ (v150 : Value).ownBlock ∧ k_ ≠ g)) (IsS27.apart HI0.out (Kd.R_apart' (HO154.out) (Kd.R_typed HO151.out) (by decide)) (by decide)) (fun k_ hk => by first | exact ⟨hk.1.1.1, ⟨hk.1.2, hk.2⟩⟩ | ((try simp only [and_assoc] at hk ⊢); first | (obtain ⟨h0_, h1_, h2_, h3_, h4_, h5_, h6_, h7_, h8_⟩ := hk; repeat' (first | assumption | refine ⟨?_, ?_⟩)) | (obtain ⟨h0_, h1_, h2_, h3_, h4_, h5_, h6_, h7_⟩ := hk; repeat' (first | assumption | refine ⟨?_, ?_⟩)) | (obtain ⟨h0_, h1_, h2_, h3_, h4_, h5_, h6_⟩ := hk; repeat' (first | assumption | refine ⟨?_, ?_⟩)) | (obtain ⟨h0_, h1_, h2_, h3_, h4_, h5_⟩ := hk; repeat' (first | assumption | refine ⟨?_, ?_⟩)) | (obtain ⟨h0_, h1_, h2_, h3_, h4_⟩ := hk; repeat' (first | assumption | refine ⟨?_, ?_⟩)) | (obtain ⟨h0_, h1_, h2_, h3_⟩ := hk; repeat' (first | assumption | refine ⟨?_, ?_⟩)) | (obtain ⟨h0_, h1_, h2_⟩ := hk; repeat' (first | assumption | refine ⟨?_, ?_⟩)) | (obtain ⟨h0_, h1_⟩ := hk; repeat' (first | assumption | refine ⟨?_, ?_⟩)))))).2.1 (Kd.R_F (Kd.R_mono (ok' := (fun k_ => (w.heap.size ≤ k_) ∧ some k_ ≠ (v150 : Value).ownBlock ∧ k_ ≠ g)) (IsS27.apart HI0.out (Kd.R_apart' (HO154.out) (Kd.R_typed HO151.out) (by decide)) (by decide)) (fun k_ hk => by first | exact ⟨hk.1.1.1, ⟨hk.1.2, hk.2⟩⟩ | ((try simp only [and_assoc] at hk ⊢); first | (obtain ⟨h0_, h1_, h2_, h3_, h4_, h5_, h6_, h7_, h8_⟩ := hk; repeat' (first | assumption | refine ⟨?_, ?_⟩)) | (obtain ⟨h0_, h1_, h2_, h3_, h4_, h5_, h6_, h7_⟩ := hk; repeat' (first | assumption | refine ⟨?_, ?_⟩)) | (obtain ⟨h0_, h1_, h2_, h3_, h4_, h5_, h6_⟩ := hk; repeat' (first | assumption | refine ⟨?_, ?_⟩)) | (obtain ⟨h0_, h1_, h2_, h3_, h4_, h5_⟩ := hk; repeat' (first | assumption | refine ⟨?_, ?_⟩)) | (obtain ⟨h0_, h1_, h2_, h3_, h4_⟩ := hk; repeat' (first | assumption | refine ⟨?_, ?_⟩)) | (obtain ⟨h0_, h1_, h2_, h3_⟩ := hk; repeat' (first | assumption | refine ⟨?_, ?_⟩)) | (obtain ⟨h0_, h1_, h2_⟩ := hk; repeat' (first | assumption | refine ⟨?_, ?_⟩)) | (obtain ⟨h0_, h1_⟩ := hk; repeat' (first | assumption | refine ⟨?_, ?_⟩)))))))) (Reps.none _ _))); intro v157 w7 ho8 hb hg_ hnew_; clear hg_ hnew_; (first | rw [← Ny156.out] at ho8 | (simp only [Int.reduceToNat] at ho8; rw [← Ny156.out] at ho8)); have n0_ := Aside0.mk (Kd.R_below (by (with_reducible repeat (first | apply Kd.R_alloc | apply Kd.R_drewN | apply Kd.R_drew)); exact HO151.out) hb); have n1_ := Aside0.mk (Kd.N_lower ho8 (keep_size (w := w) (g := g) (row := none) (by repeat (first | (with_reducible first | exact HK.out | apply KeepBut.set_ | apply keep_drewN | apply keep_drew | apply keep_alloc) | exact HK.out)))); have n2_ := Aside0.mk (IsS27.below (by repeat (first | (with_reducible first | exact HI0.out | apply IsS27.alloc | apply IsS27.drewN | apply IsS27.drew | apply IsS27.set_0) | exact HI0.out)) hb); have n3_ := Aside0.mk (KeepBut.trans (by repeat (first | (with_reducible first | exact HK.out | apply KeepBut.set_ | apply keep_drewN | apply keep_drew | apply keep_alloc) | exact HK.out)) (KeepBut.of_below hb g none) (.inl rfl)); have n4_ := Aside0.mk (below_step (by repeat (first | (with_reducible first | exact HB.out | apply below_alloc | apply pw_below_drewN | apply below_drew1 | refine below_set ?_ (IsS27.ge HI0.out)) | exact HB.out)) hb); clear HO151; clear HI0; clear HK; clear HB; clear HO154; have HO151 := n0_; have HO158 := n1_; have HI0 := n2_; have HK := n3_; have HB := n4_; clear n0_ n1_ n2_ n3_ n4_; clear hb ho8; obtain ⟨Ao9, co9, eo9⟩ := Kd.N_slice HO158.out; subst eo9; obtain ⟨Ao10, co10, eo10⟩ := Kd.R_slice HO151.out; subst eo10) | ((with_reducible refine gate_dst (N := 15) rfl ?_); refine box_event ?hg (N := 15) ?hd (cs := #[.slice Ao10 y149.length co10, .slice Ao9 y156.length co9, .slice none 0 0]) (t := 62) ?hr ?_; (case hd => rfl); (case hg => rfl); (case hr => first | (go_simp; done) | (go_simp; rfl)); intro gb159 hg w11 hbox hb; have n0_ := Aside0.mk (Kd.R_below (by (with_reducible repeat (first | apply Kd.R_alloc | apply Kd.R_drewN | apply Kd.R_drew)); exact HO151.out) hb); have n1_ := Aside0.mk (Kd.N_below (Kd.N_elderB (by (with_reducible repeat (first | apply Kd.N_alloc | apply Kd.N_drewN | apply Kd.N_drew)); exact HO158.out) gb159 (Nat.le_of_eq hg.symm)) hb); have n2_ := Aside0.mk (IsS27.below (by repeat (first | (with_reducible first | exact HI0.out | apply IsS27.alloc | apply IsS27.drewN | apply IsS27.drew | apply IsS27.set_0) | exact HI0.out)) hb); have n3_ := Aside0.mk (KeepBut.trans (by repeat (first | (with_reducible first | exact HK.out | apply KeepBut.set_ | apply keep_drewN | apply keep_drew | apply keep_alloc) | exact HK.out)) (KeepBut.of_below hb g none) (.inl rfl)); have n4_ := Aside0.mk (below_step (by repeat (first | (with_reducible first | exact HB.out | apply below_alloc | apply pw_below_drewN | apply below_drew1 | refine below_set ?_ (IsS27.ge HI0.out)) | exact HB.out)) hb); have n5_ := Aside0.mk (hbox); have n6_ := Aside0.mk ((by rw [hg]; exact (keep_size (w := w) (g := g) (row := none) (by repeat (first | (with_reducible first | exact HK.out | apply KeepBut.set_ | apply keep_drewN | apply keep_drew | apply keep_alloc) | exact HK.out))) : w.heap.size ≤ gb159)); have n7_ := Aside0.mk ((Nat.le_trans HW0.out (by rw [hg]; exact (keep_size (w := w) (g := g) (row := none) (by repeat (first | (with_reducible first | exact HK.out | apply KeepBut.set_ | apply keep_drewN | apply keep_drew | apply keep_alloc) | exact HK.out))) : w.heap.size ≤ gb159) : w0.heap.size ≤ gb159)); have n8_ := Aside0.mk ((by rw [hg]; exact Nat.ne_of_lt (IsS27.lt (show IsS27 w0 _ g t155 s0_1 s0_2 from by repeat (first | (with_reducible first | exact HI0.out | apply IsS27.alloc | apply IsS27.drewN | apply IsS27.drew | apply IsS27.set_0) | exact HI0.out))) : g ≠ gb159)); have n9_ := Aside0.mk ((by rw [hg]; exact Nat.ne_of_gt (IsS27.lt (show IsS27 w0 _ g t155 s0_1 s0_2 from by repeat (first | (with_reducible first | exact HI0.out | apply IsS27.alloc | apply IsS27.drewN | apply IsS27.drew | apply IsS27.set_0) | exact HI0.out))) : gb159 ≠ g)); clear HO151; clear HO158; clear HI0; clear HK; clear HB; have HO151 := n0_; have HO158 := n1_; have HI0 := n2_; have HK := n3_; have HB := n4_; have BK159 := n5_; have GW159 := n6_; have GE159 := n7_; have NB0_159 := n8_; have NB159_0 := n9_; clear n0_ n1_ n2_ n3_ n4_ n5_ n6_ n7_ n8_ n9_; clear hb hbox hg))
  go_loopg [5] k (fun kq v5 w' => ∃ (x5_1 : Int) (x1000_1 : Int) (x160000_1 : List ByteArray) (x160001_1 : List (List Int)) (u160000 : Value) (u160001 : Value), v5 = .int .i64 x5_1 ∧ Aside0 (spec_l05All.l0 kq x5_1 x1000_1 s0_1 s0_2 x160000_1 x160001_1 = some (r1, r2, r3, r4)) ∧ Aside0 (kq ≤ k) ∧ Aside0 (Kd.R Kd.string 9 w' w.heap.size (fun k_ => (w.heap.size ≤ k_)) u160000 x160000_1) ∧ Aside0 (Kd.N (Kd.slice 2 (Kd.int .i64)) 48 w' w.heap.size (fun k_ => (w.heap.size ≤ k_) ∧ some k_ ≠ (u160000 : Value).ownBlock ∧ k_ ≠ gb159 ∧ k_ ≠ g) u160001 x160001_1) ∧ Aside0 (w'.heap[gb159]? = some (.cells #[u160000, u160001, (.slice none 0 0)] 62 (0, 0))) ∧ Aside0 (IsS27 w0 w' g x1000_1 s0_1 s0_2) ∧ Aside0 (KeepBut w w' g none) ∧ Aside0 (Below w0.heap.size w0 w'))
  case atStart => exact ⟨(0), (t155), (y149), (y156), (.slice Ao10 y149.length co10), (.slice Ao9 y156.length co9), (by first | rfl | (simp; done) | (simp [*]; done)), H', ⟨Nat.le_refl _⟩, ⟨by (with_reducible repeat (first | apply Kd.R_alloc | apply Kd.R_drewN | apply Kd.R_drew)); exact Kd.R_mono HO151.out (fun _ hk => by first | exact hk.1 | ((try simp only [and_assoc] at hk ⊢); first | (obtain ⟨h0_, h1_, h2_, h3_, h4_, h5_, h6_, h7_, h8_⟩ := hk; repeat' (first | assumption | refine ⟨?_, ?_⟩)) | (obtain ⟨h0_, h1_, h2_, h3_, h4_, h5_, h6_, h7_⟩ := hk; repeat' (first | assumption | refine ⟨?_, ?_⟩)) | (obtain ⟨h0_, h1_, h2_, h3_, h4_, h5_, h6_⟩ := hk; repeat' (first | assumption | refine ⟨?_, ?_⟩)) | (obtain ⟨h0_, h1_, h2_, h3_, h4_, h5_⟩ := hk; repeat' (first | assumption | refine ⟨?_, ?_⟩)) | (obtain ⟨h0_, h1_, h2_, h3_, h4_⟩ := hk; repeat' (first | assumption | refine ⟨?_, ?_⟩)) | (obtain ⟨h0_, h1_, h2_, h3_⟩ := hk; repeat' (first | assumption | refine ⟨?_, ?_⟩)) | (obtain ⟨h0_, h1_, h2_⟩ := hk; repeat' (first | assumption | refine ⟨?_, ?_⟩)) | (obtain ⟨h0_, h1_⟩ := hk; repeat' (first | assumption | refine ⟨?_, ?_⟩))))⟩, ⟨by (with_reducible repeat (first | apply Kd.N_alloc | apply Kd.N_drewN | apply Kd.N_drew)); exact Kd.N_mono HO158.out (fun _ hk => by first | exact ⟨hk.1.1, ⟨hk.1.2.1, ⟨hk.2, hk.1.2.2⟩⟩⟩ | ((try simp only [and_assoc] at hk ⊢); first | (obtain ⟨h0_, h1_, h2_, h3_, h4_, h5_, h6_, h7_, h8_⟩ := hk; repeat' (first | assumption | refine ⟨?_, ?_⟩)) | (obtain ⟨h0_, h1_, h2_, h3_, h4_, h5_, h6_, h7_⟩ := hk; repeat' (first | assumption | refine ⟨?_, ?_⟩)) | (obtain ⟨h0_, h1_, h2_, h3_, h4_, h5_, h6_⟩ := hk; repeat' (first | assumption | refine ⟨?_, ?_⟩)) | (obtain ⟨h0_, h1_, h2_, h3_, h4_, h5_⟩ := hk; repeat' (first | assumption | refine ⟨?_, ?_⟩)) | (obtain ⟨h0_, h1_, h2_, h3_, h4_⟩ := hk; repeat' (first | assumption | refine ⟨?_, ?_⟩)) | (obtain ⟨h0_, h1_, h2_, h3_⟩ := hk; repeat' (first | assumption | refine ⟨?_, ?_⟩)) | (obtain ⟨h0_, h1_, h2_⟩ := hk; repeat' (first | assumption | refine ⟨?_, ?_⟩)) | (obtain ⟨h0_, h1_⟩ := hk; repeat' (first | assumption | refine ⟨?_, ?_⟩))))⟩, ⟨by (with_reducible repeat (first | refine blk_drewN ?_ _ | refine blk_drew ?_ | refine blk_alloc ?_ _)); exact BK159.out⟩, ⟨by repeat (first | (with_reducible first | exact HI0.out | apply IsS27.alloc | apply IsS27.drewN | apply IsS27.drew | apply IsS27.set_0 | refine IsS27.far ?_ NB0_159.out _) | exact HI0.out)⟩, ⟨by repeat (first | (with_reducible first | exact HK.out | apply KeepBut.set_ | apply keep_drewN | apply keep_drew | apply keep_alloc | refine keep_far ?_ GW159.out _) | exact HK.out)⟩, ⟨by repeat (first | (with_reducible first | exact HB.out | apply below_alloc | apply pw_below_drewN | apply below_drew1 | refine below_set ?_ (IsS27.ge HI0.out) | refine below_set ?_ GE159.out) | exact HB.out)⟩⟩
  case round =>
    clear H'
    try clear p2
    try clear c4
    try clear c5
    obtain ⟨x5_1, x1000_1, x160000_1, x160001_1, u160000, u160001, rfl, HA, HK1, HO_160000, HO_160001, BK159, HI0, HK, HB⟩ := hrel
    cases gk with
    | zero => exact absurd HA.out (by simp [spec_l05All.l0])
    | succ k1 =>
      have H := HA.out
      clear HA
      simp only [spec_l05All.l0] at H
      by_cases c12 : x5_1 < (x160000_1.length : Int)
      · rw [if_pos c12] at H
        have c12b0 : decide (x5_1 < (x160000_1.length : Int)) = true := decide_eq_true c12
        clear c12
        have H' := Aside0.mk H
        clear H
        have hnb13 := NB159_0.out
        have hnc13 := NB0_159.out
        have hcz14_0 : wr.cell? ⟨gb159, 0, none⟩ = some (u160000) := (blk_cell BK159.out 0).trans rfl
        have hcz14_1 : wr.cell? ⟨gb159, 1, none⟩ = some (u160001) := (blk_cell BK159.out 1).trans rfl
        have hcz14_2 : wr.cell? ⟨gb159, 2, none⟩ = some (.slice none 0 0) := (blk_cell BK159.out 2).trans rfl
        have hfz14_0 := blk_frozen BK159.out 0
        have hfz14_1 := blk_frozen BK159.out 1
        have hfz14_2 := blk_frozen BK159.out 2
        obtain ⟨Ao15, co15, eo15⟩ := Kd.R_slice HO_160000.out
        subst eo15
        go_wp2
        go_loopg [6] k1 (fun kq v6 w' => ∃ (x6_2 : Int) (x1000_2 : Int) (x160000_2 : List ByteArray) (x160001_2 : List (List Int)) (u160000 : Value) (u160001 : Value), v6 = .int .u8 x6_2 ∧ Aside0 (spec_l05All.l1 kq x5_1 x6_2 x1000_2 s0_1 s0_2 x160000_2 x160001_2 = some (r1, r2, r3, r4)) ∧ Aside0 (kq ≤ k1) ∧ Aside0 (Kd.R Kd.string 9 w' w.heap.size (fun k_ => (w.heap.size ≤ k_)) u160000 x160000_2) ∧ Aside0 (Kd.N (Kd.slice 2 (Kd.int .i64)) 48 w' w.heap.size (fun k_ => (w.heap.size ≤ k_) ∧ some k_ ≠ (u160000 : Value).ownBlock ∧ k_ ≠ gb159 ∧ k_ ≠ g) u160001 x160001_2) ∧ Aside0 (w'.heap[gb159]? = some (.cells #[u160000, u160001, (.slice none 0 0)] 62 (0, 0))) ∧ Aside0 (IsS27 w0 w' g x1000_2 s0_1 s0_2) ∧ Aside0 (KeepBut w w' g none) ∧ Aside0 (Below w0.heap.size w0 w'))
        case atStart => exact ⟨(97), (x1000_1), (x160000_1), (x160001_1), (.slice Ao15 x160000_1.length co15), (u160001), (by first | rfl | (simp; done) | (simp [*]; done)), H', ⟨Nat.le_refl _⟩, ⟨by (with_reducible repeat (first | apply Kd.R_alloc | apply Kd.R_drewN | apply Kd.R_drew)); exact HO_160000.out⟩, ⟨by (with_reducible repeat (first | apply Kd.N_alloc | apply Kd.N_drewN | apply Kd.N_drew)); exact HO_160001.out⟩, ⟨by (with_reducible repeat (first | refine blk_drewN ?_ _ | refine blk_drew ?_ | refine blk_alloc ?_ _)); exact BK159.out⟩, ⟨by repeat (first | (with_reducible first | exact HI0.out | apply IsS27.alloc | apply IsS27.drewN | apply IsS27.drew | apply IsS27.set_0 | refine IsS27.far ?_ NB0_159.out _) | exact HI0.out)⟩, ⟨by repeat (first | (with_reducible first | exact HK.out | apply KeepBut.set_ | apply keep_drewN | apply keep_drew | apply keep_alloc | refine keep_far ?_ GW159.out _) | exact HK.out)⟩, ⟨by repeat (first | (with_reducible first | exact HB.out | apply below_alloc | apply pw_below_drewN | apply below_drew1 | refine below_set ?_ (IsS27.ge HI0.out) | refine below_set ?_ GE159.out) | exact HB.out)⟩⟩
        case round =>
          clear H'
          try clear c1
          try clear p2
          try clear c4
          try clear c5
          try clear c12
          try clear c12b0
          try clear c13
          try clear hcz14_0
          try clear hcz14_1
          try clear hcz14_2
          try clear hfz14_0
          try clear hfz14_1
          try clear hfz14_2
          try clear p2
          obtain ⟨x6_2, x1000_2, x160000_2, x160001_2, u160000, u160001, rfl, HA, HK2, HO_160000, HO_160001, BK159, HI0, HK, HB⟩ := hrel
          cases gk with
          | zero => exact absurd HA.out (by simp [spec_l05All.l1])
          | succ k2 =>
            have H := HA.out
            clear HA
            simp only [spec_l05All.l1] at H
            by_cases c16 : x6_2 ≤ 100
            · rw [if_pos c16] at H
              have c16b0 : decide (x6_2 ≤ 100) = true := decide_eq_true c16
              clear c16
              by_cases c17 : 0 ≤ x5_1
              · rw [if_pos c17] at H
                have c17b0 : decide (0 ≤ x5_1) = true := decide_eq_true c17
                clear c17
                by_cases c18 : x5_1 < (x160000_2.length : Int)
                · rw [if_pos c18] at H
                  have c18b0 : decide (x5_1 < (x160000_2.length : Int)) = true := decide_eq_true c18
                  clear c18
                  obtain ⟨y161, hy161⟩ : ∃ y_ : List Int, y_ = (([x6_2] : List Int)) := ⟨_, rfl⟩
                  replace H : (if (rdOf ByteArray.empty x160000_2 x5_1).size + (strOfNums y161).size ≤ 9223372036854775807 then ((spec_l05Map.f k2 x1000_2 s0_1 s0_2 ((rdOf ByteArray.empty x160000_2 x5_1) ++ (strOfNums y161))).bind fun bt164 => ((spec_l05Maps_find.f k2 x160001_2 bt164.1).bind fun t168 => (if t168 < 0 then (if x160000_2.length < 8796093022208 then (if x160001_2.length < 5864062014805 then (spec_l05All.l1 k2 x5_1 ((x6_2 + 1) % 256) bt164.2 s0_1 s0_2 (x160000_2 ++ [(rdOf ByteArray.empty x160000_2 x5_1) ++ (strOfNums y161)]) (x160001_2 ++ [bt164.1])) else (none)) else (none)) else (spec_l05All.l1 k2 x5_1 ((x6_2 + 1) % 256) bt164.2 s0_1 s0_2 x160000_2 x160001_2)))) else (none)) = some (r1, r2, r3, r4) := by first | (rw [hy161]; with_reducible exact H) | (have H2_ := (Option.bind_some _ _).symm.trans H; rw [hy161]; with_reducible exact H2_) | (have H2_ := (Option.bind_some _ _).symm.trans H; with_reducible exact H2_) | with_reducible exact H | (rw [hy161]; exact H) | exact H
                  have Ny161 := Aside0.mk hy161
                  clear hy161
                  by_cases c19 : (rdOf ByteArray.empty x160000_2 x5_1).size + (strOfNums y161).size ≤ 9223372036854775807
                  · rw [if_pos c19] at H
                    have c19b0 := eq_true c19
                    have c19b1 : decide ((rdOf ByteArray.empty x160000_2 x5_1).size + (strOfNums y161).size ≤ 9223372036854775807) = true := decide_eq_true c19
                    try have c19b2 : (9223372036854775807 < (rdOf ByteArray.empty x160000_2 x5_1).size + (strOfNums y161).size) = False := eq_false (Nat.not_lt.2 c19)
                    replace H := Option.bind_eq_some_iff.mp H
                    obtain ⟨⟨t164, t167⟩, A200, H⟩ := H
                    replace H : ((spec_l05Maps_find.f k2 x160001_2 t164).bind fun t168 => (if t168 < 0 then (if x160000_2.length < 8796093022208 then (if x160001_2.length < 5864062014805 then (spec_l05All.l1 k2 x5_1 ((x6_2 + 1) % 256) t167 s0_1 s0_2 (x160000_2 ++ [(rdOf ByteArray.empty x160000_2 x5_1) ++ (strOfNums y161)]) (x160001_2 ++ [t164])) else (none)) else (none)) else (spec_l05All.l1 k2 x5_1 ((x6_2 + 1) % 256) t167 s0_1 s0_2 x160000_2 x160001_2))) = some (r1, r2, r3, r4) := H
                    have A20 := Aside0.mk A200
                    clear A200
                    replace H := Option.bind_eq_some_iff.mp H
                    obtain ⟨t168, A210, H⟩ := H
                    replace H : (if t168 < 0 then (if x160000_2.length < 8796093022208 then (if x160001_2.length < 5864062014805 then (spec_l05All.l1 k2 x5_1 ((x6_2 + 1) % 256) t167 s0_1 s0_2 (x160000_2 ++ [(rdOf ByteArray.empty x160000_2 x5_1) ++ (strOfNums y161)]) (x160001_2 ++ [t164])) else (none)) else (none)) else (spec_l05All.l1 k2 x5_1 ((x6_2 + 1) % 256) t167 s0_1 s0_2 x160000_2 x160001_2)) = some (r1, r2, r3, r4) := H
                    have A21 := Aside0.mk A210
                    clear A210
                    by_cases c22 : t168 < 0
                    · rw [if_pos c22] at H
                      have c22b0 : decide (t168 < 0) = true := decide_eq_true c22
                      clear c22
                      by_cases c23 : x160000_2.length < 8796093022208
                      · rw [if_pos c23] at H
                        have LMc23 := Aside0.mk c23
                        clear c23
                        obtain ⟨y169, hy169⟩ : ∃ y_ : List ByteArray, y_ = (x160000_2 ++ [(rdOf ByteArray.empty x160000_2 x5_1) ++ (strOfNums y161)]) := ⟨_, rfl⟩
                        replace H : (if x160001_2.length < 5864062014805 then (spec_l05All.l1 k2 x5_1 ((x6_2 + 1) % 256) t167 s0_1 s0_2 y169 (x160001_2 ++ [t164])) else (none)) = some (r1, r2, r3, r4) := by first | (rw [hy169]; with_reducible exact H) | (have H2_ := (Option.bind_some _ _).symm.trans H; rw [hy169]; with_reducible exact H2_) | (have H2_ := (Option.bind_some _ _).symm.trans H; with_reducible exact H2_) | with_reducible exact H | (rw [hy169]; exact H) | exact H
                        have Ny169 := Aside0.mk hy169
                        clear hy169
                        by_cases c24 : x160001_2.length < 5864062014805
                        · rw [if_pos c24] at H
                          have LMc24 := Aside0.mk c24
                          clear c24
                          obtain ⟨y172, hy172⟩ : ∃ y_ : List (List Int), y_ = (x160001_2 ++ [t164]) := ⟨_, rfl⟩
                          replace H : (spec_l05All.l1 k2 x5_1 ((x6_2 + 1) % 256) t167 s0_1 s0_2 y169 y172) = some (r1, r2, r3, r4) := by first | (rw [hy172]; with_reducible exact H) | (have H2_ := (Option.bind_some _ _).symm.trans H; rw [hy172]; with_reducible exact H2_) | (have H2_ := (Option.bind_some _ _).symm.trans H; with_reducible exact H2_) | with_reducible exact H | (rw [hy172]; exact H) | exact H
                          have Ny172 := Aside0.mk hy172
                          clear hy172
                          have H' := Aside0.mk H
                          clear H
                          try go_wp2
                          have n0_ := Aside0.mk (Kd.R_drew HO_160000.out)
                          have n1_ := Aside0.mk (Kd.N_drew HO_160001.out)
                          have n2_ := Aside0.mk (blk_drew BK159.out)
                          have n3_ := Aside0.mk (IsS27.drew HI0.out)
                          have n4_ := Aside0.mk (keep_drew HK.out)
                          have n5_ := Aside0.mk (below_drew1 HB.out)
                          clear HO_160000
                          clear HO_160001
                          clear BK159
                          clear HI0
                          clear HK
                          clear HB
                          have HO_160000 := n0_
                          have HO_160001 := n1_
                          have BK159 := n2_
                          have HI0 := n3_
                          have HK := n4_
                          have HB := n5_
                          clear n0_ n1_ n2_ n3_ n4_ n5_
                          obtain ⟨Ao26, co26, eo26⟩ := Kd.R_slice HO_160000.out
                          (first | subst eo26 | (injection eo26 with f1_ f2_ f3_; have f4_ := f1_.symm; have f5_ := f3_.symm; clear f1_ f2_ f3_; subst f4_; subst f5_))
                          have p160 : 0 ≤ (x5_1 : Int) := of_decide_eq_true (by first | (with_reducible assumption) | assumption)
                          have q160 : x5_1 < (x160000_2.length : Int) := of_decide_eq_true (by first | (with_reducible assumption) | assumption)
                          obtain ⟨ad160, e160, hx160_0⟩ := Kd.at_string (Kd.R_reads' HO_160000.out).2.2 x5_1 p160 q160
                          cases e160
                          replace p160 := eq_true p160
                          replace q160 := eq_true q160
                          refine start_ (n := 12) (S := fun w' => w'.cell? ⟨gb159, 0, none⟩ = some (.slice (some ad160) x160000_2.length co26) ∧ w'.cell? ⟨gb159, 1, none⟩ = some (u160001) ∧ w'.cell? ⟨gb159, 2, none⟩ = some (.slice none 0 0) ∧ w'.cell? (ad160.add (x5_1).toNat) = some (.string (rdOf ByteArray.empty x160000_2 x5_1))) (ds := []) #[false, false, false, false, false, false, false, false, false, false, false, false] (by kernel_rfl) rfl rfl ⟨(blk_cell BK159.out 0).trans rfl, (blk_cell BK159.out 1).trans rfl, (blk_cell BK159.out 2).trans rfl, hx160_0⟩ (fun hHeld => ?_); refine with_tabW spec_l05All.tab8 spec_l05All.bits8 (fun HT_ HW_ => ?_)
                          generalize wr.drew = w25 at HO_160000 HO_160001 BK159 HI0 HK HB hx160_0 hHeld ⊢
                          refine pure_ (i := 0) (N := some 29) (v := ?_) (a' := ?_) #[true, false, false, false, false, false, false, false, false, false, false, false] rfl rfl (any_of HT_.out (by kernel_rfl)) (fun _ _ _ h => h) (Or.inl ⟨by rfl, ?_⟩) ?_ ?_
                          rotate_left
                          · intro w'
                            go_simp
                            with_reducible rfl
                          rotate_left
                          · simp only [Act.put, List.setIfInBounds_toArray, List.set_cons_zero, List.set_cons_succ, i64_w, i32_w]
                            rfl
                          refine pure_ (i := 1) (N := some 30) (v := ?_) (a' := ?_) #[true, true, false, false, false, false, false, false, false, false, false, false] rfl rfl (any_of HT_.out (by kernel_rfl)) (fun _ _ _ h => h) (Or.inl ⟨by rfl, ?_⟩) ?_ ?_
                          rotate_left
                          · intro w'
                            go_simp
                            with_reducible rfl
                          rotate_left
                          · simp only [Act.put, List.setIfInBounds_toArray, List.set_cons_zero, List.set_cons_succ, i64_w, i32_w]
                            rfl
                          refine pure_ (i := 2) (N := some 31) (v := ?_) (a' := ?_) #[true, true, true, false, false, false, false, false, false, false, false, false] rfl rfl (any_of HT_.out (by kernel_rfl)) (fun _ _ _ h => h) (Or.inl ⟨by rfl, ?_⟩) ?_ ?_
                          rotate_left
                          · intro w'
                            go_simp
                            with_reducible rfl
                          rotate_left
                          · simp only [Act.put, List.setIfInBounds_toArray, List.set_cons_zero, List.set_cons_succ, i64_w, i32_w]
                            rfl
                          refine pure_ (i := 4) (N := some 33) (v := ?_) (a' := ?_) #[true, true, true, false, true, false, false, false, false, false, false, false] rfl rfl (any_of HT_.out (by kernel_rfl)) (fun _ _ _ h => h) (Or.inl ⟨by rfl, ?_⟩) ?_ ?_
                          rotate_left
                          · intro w'
                            go_simp
                            with_reducible rfl
                          rotate_left
                          · simp only [Act.put, List.setIfInBounds_toArray, List.set_cons_zero, List.set_cons_succ, i64_w, i32_w]
                            rfl
                          refine pure_ (i := 7) (N := some 36) (v := ?_) (a' := ?_) #[true, true, true, false, true, false, false, true, false, false, false, false] rfl rfl (any_of HT_.out (by kernel_rfl)) (fun _ _ _ h => h) (Or.inl ⟨by rfl, ?_⟩) ?_ ?_
                          rotate_left
                          · intro w'
                            go_simp
                            with_reducible rfl
                          rotate_left
                          · simp only [Act.put, List.setIfInBounds_toArray, List.set_cons_zero, List.set_cons_succ, i64_w, i32_w]
                            rfl
                          refine take_ (i := 3) (N := some 32) (v := ?_) (a' := ?_) #[true, true, true, true, true, false, false, true, false, false, false, false] rfl rfl (take_ofW HT_.out HW_.out (by kernel_rfl)) (fun _ _ _ h => h) (Or.inl ⟨by rfl, ?_⟩) hHeld ?_ ?_
                          rotate_left
                          · rintro w' ⟨s0, s1, s2, s3⟩
                            go_simp
                            with_reducible rfl
                          rotate_left
                          · simp only [Act.put, List.setIfInBounds_toArray, List.set_cons_zero, List.set_cons_succ, i64_w, i32_w]
                            rfl
                          refine pure_ (i := 5) (N := some 34) (v := ?_) (a' := ?_) #[true, true, true, true, true, true, false, true, false, false, false, false] rfl rfl (any_of HT_.out (by kernel_rfl)) (fun _ _ _ h => h) (Or.inl ⟨by rfl, ?_⟩) ?_ ?_
                          rotate_left
                          · intro w'
                            go_simp
                            with_reducible rfl
                          rotate_left
                          · simp only [Act.put, List.setIfInBounds_toArray, List.set_cons_zero, List.set_cons_succ, i64_w, i32_w]
                            rfl
                          refine take_ (i := 6) (N := some 35) (v := ?_) (a' := ?_) #[true, true, true, true, true, true, true, true, false, false, false, false] rfl rfl (take_ofW HT_.out HW_.out (by kernel_rfl)) (fun _ _ _ h => h) (Or.inl ⟨by rfl, ?_⟩) hHeld ?_ ?_
                          rotate_left
                          · rintro w' ⟨s0, s1, s2, s3⟩
                            go_simp
                            with_reducible rfl
                          rotate_left
                          · simp only [Act.put, List.setIfInBounds_toArray, List.set_cons_zero, List.set_cons_succ, i64_w, i32_w]
                            rfl
                          refine one_ (i := 8) (N := some 37) #[true, true, true, true, true, true, true, true, true, false, false, false] rfl rfl (one_of HT_.out (by kernel_rfl)) (by decide) (fun K hK => ?_)
                          refine Kd.R_lit_step (Kd.int .u8) _ 5 ?hg (N := 37) ?hd (xs := ([x6_2] : List Int)) (inner := [.int .u8 x6_2]) (ok := fun _ => True) (okp := fun _ => True) ?hr ?hp (fun _ hk => hk) trivial (Below.refl _ _) (Nat.le_refl _) (by simp) ?_; (case hd => rfl); (case hg => rfl); (case hr => first | (go_simp; done) | (go_simp; rfl)); (case hp => exact (Reps.one (show Kd.M (Kd.int .u8) _ _ _ x6_2 [.int .u8 x6_2] from rfl) (Reps.none _ _)))
                          intro v162 w27 ho28 hb hg_ hnew_
                          have HS3_ := (hb.cell (World.block_lt_of_cell? _ _ (hHeld.2.2.2))).trans (hHeld.2.2.2)
                          clear hg_ hnew_
                          (first | rw [← Ny161.out] at ho28 | (simp only [Int.reduceToNat] at ho28; rw [← Ny161.out] at ho28))
                          have n0_ := Aside0.mk (Kd.R_below (by (with_reducible repeat (first | apply Kd.R_alloc | apply Kd.R_drewN | apply Kd.R_drew)); exact HO_160000.out) hb)
                          have n1_ := Aside0.mk (Kd.N_elder' (by (with_reducible repeat (first | apply Kd.N_alloc | apply Kd.N_drewN | apply Kd.N_drew)); exact HO_160001.out) (Kd.R_base ho28) hb)
                          have n2_ := Aside0.mk (Kd.R_lower (Kd.R_newM (M := fun k_ => (w.heap.size ≤ k_)) ho28 (keep_size (w := w) (g := g) (row := none) (by repeat (first | (with_reducible first | exact HK.out | apply KeepBut.set_ | apply keep_drewN | apply keep_drew | apply keep_alloc | refine keep_far ?_ GW159.out _) | exact HK.out))) (fun k_ h_ => h_)) (keep_size (w := w) (g := g) (row := none) (by repeat (first | (with_reducible first | exact HK.out | apply KeepBut.set_ | apply keep_drewN | apply keep_drew | apply keep_alloc | refine keep_far ?_ GW159.out _) | exact HK.out))))
                          have n3_ := Aside0.mk (blk_below (g := gb159) (o := .cells #[.slice (some ad160) x160000_2.length co26, u160001, .slice none 0 0] 62 (0, 0)) (by (with_reducible repeat (first | refine blk_drewN ?_ _ | refine blk_drew ?_ | refine blk_alloc ?_ _)); exact BK159.out) hb)
                          have n4_ := Aside0.mk (IsS27.below (by repeat (first | (with_reducible first | exact HI0.out | apply IsS27.alloc | apply IsS27.drewN | apply IsS27.drew | apply IsS27.set_0 | refine IsS27.far ?_ NB0_159.out _) | exact HI0.out)) hb)
                          have n5_ := Aside0.mk (KeepBut.trans (by repeat (first | (with_reducible first | exact HK.out | apply KeepBut.set_ | apply keep_drewN | apply keep_drew | apply keep_alloc | refine keep_far ?_ GW159.out _) | exact HK.out)) (KeepBut.of_below hb g none) (.inl rfl))
                          have n6_ := Aside0.mk (below_step (by repeat (first | (with_reducible first | exact HB.out | apply below_alloc | apply pw_below_drewN | apply below_drew1 | refine below_set ?_ (IsS27.ge HI0.out) | refine below_set ?_ GE159.out) | exact HB.out)) hb)
                          clear HO_160000
                          clear HO_160001
                          clear BK159
                          clear HI0
                          clear HK
                          clear HB
                          have HO_160000 := n0_
                          have HO_160001 := n1_
                          have HO163 := n2_
                          have BK159 := n3_
                          have HI0 := n4_
                          have HK := n5_
                          have HB := n6_
                          clear n0_ n1_ n2_ n3_ n4_ n5_ n6_
                          clear hb ho28
                          refine hK.out _ _ ⟨(blk_cell BK159.out 0).trans rfl, (blk_cell BK159.out 1).trans rfl, (blk_cell BK159.out 2).trans rfl, HS3_⟩ (fun hHeld => ?_)
                          clear hK K
                          refine norm_ (a' := ?_) ?_ ?_
                          rotate_left
                          · show Act.put _ (some 37) _ = _
                            simp only [Act.put, List.setIfInBounds_toArray, List.set_cons_zero, List.set_cons_succ, i64_w, i32_w]
                            rfl
                          refine one_ (i := 9) (N := some 38) #[true, true, true, true, true, true, true, true, true, true, false, false] rfl rfl (one_of HT_.out (by kernel_rfl)) (by decide) (fun K hK => ?_)
                          have hcv29 := own_string (P := Try.prog) Try.underlying57 Try.underlying5 Try.underlying9 (Kd.own_of_R HO163.out)
                          refine value_ (w1 := ?_) (v := ?_) (by rfl) rfl ?_ ?_
                          rotate_left 2
                          · go_simp
                            constructor
                            · rfl
                            · rfl
                          clear hcv29
                          refine hK.out _ _ ⟨(blk_cell BK159.out 0).trans rfl, (blk_cell BK159.out 1).trans rfl, (blk_cell BK159.out 2).trans rfl, hHeld.2.2.2⟩ (fun hHeld => ?_)
                          clear hK K
                          refine norm_ (a' := ?_) ?_ ?_
                          rotate_left
                          · show Act.put _ (some 38) _ = _
                            simp only [Act.put, List.setIfInBounds_toArray, List.set_cons_zero, List.set_cons_succ, i64_w, i32_w]
                            rfl
                          refine pure_ (i := 10) (N := some 39) (v := ?_) (a' := ?_) #[true, true, true, true, true, true, true, true, true, true, true, false] rfl rfl (any_of HT_.out (by kernel_rfl)) (fun _ _ _ h => h) (Or.inl ⟨by rfl, ?_⟩) ?_ ?_
                          rotate_left
                          · intro w'
                            go_simp
                            with_reducible rfl
                          rotate_left
                          · simp only [Act.put, List.setIfInBounds_toArray, List.set_cons_zero, List.set_cons_succ, i64_w, i32_w]
                            rfl
                          refine pure_ (i := 11) (N := some 7) (v := ?_) (a' := ?_) #[true, true, true, true, true, true, true, true, true, true, true, true] rfl rfl (any_of HT_.out (by kernel_rfl)) (fun _ _ _ h => h) (Or.inl ⟨by rfl, ?_⟩) ?_ ?_
                          rotate_left
                          · intro w'
                            go_simp
                            with_reducible rfl
                          rotate_left
                          · simp only [Act.put, List.setIfInBounds_toArray, List.set_cons_zero, List.set_cons_succ, i64_w, i32_w]
                            rfl
                          refine done_ (done_of HT_.out (by kernel_rfl)) ?_
                          try go_wp2_with (first | ((with_reducible refine gate_callee (f := 57) rfl ?_); refine goesL_ (some 42) rfl rfl Try.func57 (by kernel_rfl) rfl #[.pointer (some ⟨g, 0, none⟩), .string ((rdOf ByteArray.empty x160000_2 x5_1) ++ (strOfNums y161))] rfl (by (try simp only [List.map_toArray, List.map_cons, List.map_nil]); first | done | rfl | (simp only [List.length_drop, List.length_take]; rfl)) ?_; (with_reducible refine (spec_l05Map.calls k2 g x1000_2 s0_1 s0_2 ((rdOf ByteArray.empty x160000_2 x5_1) ++ (strOfNums y161)) t164 t167 w0 _ ?side1 ?side2 A20.out).mono ?_); (case side1 => repeat (first | (with_reducible first | exact HI0.out | apply IsS27.alloc | apply IsS27.drewN | apply IsS27.drew | apply IsS27.set_0 | refine IsS27.far ?_ NB0_159.out _) | exact HI0.out)); (case side2 => repeat (first | (with_reducible first | exact HB.out | apply below_alloc | apply pw_below_drewN | apply below_drew1 | refine below_set ?_ (IsS27.ge HI0.out) | refine below_set ?_ GE159.out) | exact HB.out)); rintro e w30 ⟨v165, rfl, ho0, hi, hb, hk⟩; refine ⟨_, rfl, ?_⟩; have n0_ := Aside0.mk (Kd.R_mono (Kd.R_keep (IsS27.apart (show IsS27 w0 _ g x1000_2 s0_1 s0_2 from by repeat (first | (with_reducible first | exact HI0.out | apply IsS27.alloc | apply IsS27.drewN | apply IsS27.drew | apply IsS27.set_0 | refine IsS27.far ?_ NB0_159.out _) | exact HI0.out)) (by (with_reducible repeat (first | apply Kd.R_alloc | apply Kd.R_drewN | apply Kd.R_drew)); exact HO_160000.out) (by decide)) hk (fun _ h => h.2)) (fun _ h => h.1)); have n1_ := Aside0.mk (Kd.N_mono (Kd.N_told (Kd.N_oldK (Kd.N_mono (ok := fun k_ => ((((w.heap.size ≤ k_)) ∧ (some k_ ≠ (.slice (some ad160) x160000_2.length co26 : Value).ownBlock ∧ (k_ ≠ gb159 ∧ k_ ≠ g))) ∧ some k_ ≠ (v162 : Value).ownBlock)) (by (with_reducible repeat (first | apply Kd.N_alloc | apply Kd.N_drewN | apply Kd.N_drew)); exact HO_160001.out) (fun k_ hk_ => (⟨hk_, hk_.1.2.2.2⟩ : _ ∧ k_ ≠ g))) hk) (Kd.R_base ho0)) (fun _ h_ => h_.1)); have n2_ := Aside0.mk (KeepBut.blk hk (g' := gb159) (o := .cells #[.slice (some ad160) x160000_2.length co26, u160001, .slice none 0 0] 62 (0, 0)) (by (with_reducible repeat (first | refine blk_drewN ?_ _ | refine blk_drew ?_ | refine blk_alloc ?_ _)); exact BK159.out) NB159_0.out (by simp)); have n3_ := Aside0.mk (Kd.R_mono (Kd.R_keep (IsS27.apart (show IsS27 w0 _ g x1000_2 s0_1 s0_2 from by repeat (first | (with_reducible first | exact HI0.out | apply IsS27.alloc | apply IsS27.drewN | apply IsS27.drew | apply IsS27.set_0 | refine IsS27.far ?_ NB0_159.out _) | exact HI0.out)) (by (with_reducible repeat (first | apply Kd.R_alloc | apply Kd.R_drewN | apply Kd.R_drew)); exact HO163.out) (by decide)) hk (fun _ h => h.2)) (fun _ h => h.1)); have n4_ := Aside0.mk (Kd.R_lower (Kd.R_newM (M := fun k_ => (w.heap.size ≤ k_)) ho0 (keep_size (w := w) (g := g) (row := none) (by repeat (first | (with_reducible first | exact HK.out | apply KeepBut.set_ | apply keep_drewN | apply keep_drew | apply keep_alloc | refine keep_far ?_ GW159.out _) | exact HK.out))) (fun k_ h_ => h_)) (keep_size (w := w) (g := g) (row := none) (by repeat (first | (with_reducible first | exact HK.out | apply KeepBut.set_ | apply keep_drewN | apply keep_drew | apply keep_alloc | refine keep_far ?_ GW159.out _) | exact HK.out)))); have n5_ := Aside0.mk (KeepBut.trans (by repeat (first | (with_reducible first | exact HK.out | apply KeepBut.set_ | apply keep_drewN | apply keep_drew | apply keep_alloc | refine keep_far ?_ GW159.out _) | exact HK.out)) hk (.inl rfl)); have n6_ := Aside0.mk (hb); have n7_ := Aside0.mk (hi); clear HO_160000; clear HO_160001; clear BK159; clear HO163; clear HK; clear HB; clear HI0; have HO_160000 := n0_; have HO_160001 := n1_; have BK159 := n2_; have HO163 := n3_; have HO166 := n4_; have HK := n5_; have HB := n6_; have HI0 := n7_; clear n0_ n1_ n2_ n3_ n4_ n5_ n6_ n7_; (try clear hb); (try clear hb2); (try clear hk); (try clear hi); (try clear ho0); obtain ⟨Ao31, co31, eo31⟩ := Kd.N_slice HO_160001.out; subst eo31; obtain ⟨Ao32, co32, eo32⟩ := Kd.R_slice HO166.out; subst eo32) | ((with_reducible refine gate_callee (f := 58) rfl ?_); refine goesL_ (some 45) rfl rfl Try.func58 (by kernel_rfl) rfl #[.pointer (some ⟨gb159, 0, none⟩), .slice Ao32 t164.length co32] rfl (by (try simp only [List.map_toArray, List.map_cons, List.map_nil]); first | done | rfl | (simp only [List.length_drop, List.length_take]; rfl)) ?_; (with_reducible refine (spec_l05Maps_find.calls k2 Ao31 co31 x160001_2 _ _ t164 t168 _ gb159 ?hm0 ?side1 ?side2 ?side3 ?side4 A21.out).mono ?_); (case hm0 => exact (blk_cell (by (with_reducible repeat (first | refine blk_drewN ?_ _ | refine blk_drew ?_ | refine blk_alloc ?_ _)); exact BK159.out) 1).trans rfl); (case side1 => repeat (first | exact (Kd.N_reads' HO_160001.out).2.2 | (with_reducible refine Kd.C_alloc ?_ _) | (with_reducible refine Kd.C_drewN ?_ _) | (with_reducible refine Kd.C_drew ?_))); (case side2 => exact (Kd.N_reads' HO_160001.out).2.1); (case side3 => repeat (first | exact (Kd.R_reads' HO166.out).2.2 | (with_reducible refine Kd.C_alloc ?_ _) | (with_reducible refine Kd.C_drewN ?_ _) | (with_reducible refine Kd.C_drew ?_))); (case side4 => exact (Kd.R_reads' HO166.out).2.1); rintro e w' ⟨rfl, ⟨nd, rfl⟩⟩; refine ⟨_, rfl, ?_⟩; (try (rw [drewN_self w30]; generalize hq_ : World.drewN w30 _ = w30; have n0_ : Aside0 (Kd.R (Kd.int .u8) 5 w30 w.heap.size (fun k_ => (w.heap.size ≤ k_)) v162 y161) := ⟨by rw [← hq_]; exact (by (with_reducible repeat (first | apply Kd.R_alloc | apply Kd.R_drewN | apply Kd.R_drew)); exact Kd.R_mono HO163.out (fun _ hk => by first | exact hk.1 | ((try simp only [and_assoc] at hk ⊢); first | (obtain ⟨h0_, h1_, h2_, h3_, h4_, h5_, h6_, h7_, h8_⟩ := hk; repeat' (first | assumption | refine ⟨?_, ?_⟩)) | (obtain ⟨h0_, h1_, h2_, h3_, h4_, h5_, h6_, h7_⟩ := hk; repeat' (first | assumption | refine ⟨?_, ?_⟩)) | (obtain ⟨h0_, h1_, h2_, h3_, h4_, h5_, h6_⟩ := hk; repeat' (first | assumption | refine ⟨?_, ?_⟩)) | (obtain ⟨h0_, h1_, h2_, h3_, h4_, h5_⟩ := hk; repeat' (first | assumption | refine ⟨?_, ?_⟩)) | (obtain ⟨h0_, h1_, h2_, h3_, h4_⟩ := hk; repeat' (first | assumption | refine ⟨?_, ?_⟩)) | (obtain ⟨h0_, h1_, h2_, h3_⟩ := hk; repeat' (first | assumption | refine ⟨?_, ?_⟩)) | (obtain ⟨h0_, h1_, h2_⟩ := hk; repeat' (first | assumption | refine ⟨?_, ?_⟩)) | (obtain ⟨h0_, h1_⟩ := hk; repeat' (first | assumption | refine ⟨?_, ?_⟩)))))⟩; have n1_ : Aside0 (Kd.R (Kd.int .i64) 2 w30 w.heap.size (fun k_ => (w.heap.size ≤ k_)) (.slice Ao32 t164.length co32) t164) := ⟨by rw [← hq_]; exact (by (with_reducible repeat (first | apply Kd.R_alloc | apply Kd.R_drewN | apply Kd.R_drew)); exact Kd.R_mono HO166.out (fun _ hk => by first | exact hk.1 | ((try simp only [and_assoc] at hk ⊢); first | (obtain ⟨h0_, h1_, h2_, h3_, h4_, h5_, h6_, h7_, h8_⟩ := hk; repeat' (first | assumption | refine ⟨?_, ?_⟩)) | (obtain ⟨h0_, h1_, h2_, h3_, h4_, h5_, h6_, h7_⟩ := hk; repeat' (first | assumption | refine ⟨?_, ?_⟩)) | (obtain ⟨h0_, h1_, h2_, h3_, h4_, h5_, h6_⟩ := hk; repeat' (first | assumption | refine ⟨?_, ?_⟩)) | (obtain ⟨h0_, h1_, h2_, h3_, h4_, h5_⟩ := hk; repeat' (first | assumption | refine ⟨?_, ?_⟩)) | (obtain ⟨h0_, h1_, h2_, h3_, h4_⟩ := hk; repeat' (first | assumption | refine ⟨?_, ?_⟩)) | (obtain ⟨h0_, h1_, h2_, h3_⟩ := hk; repeat' (first | assumption | refine ⟨?_, ?_⟩)) | (obtain ⟨h0_, h1_, h2_⟩ := hk; repeat' (first | assumption | refine ⟨?_, ?_⟩)) | (obtain ⟨h0_, h1_⟩ := hk; repeat' (first | assumption | refine ⟨?_, ?_⟩)))))⟩; have n2_ : Aside0 (Kd.R Kd.string 9 w30 w.heap.size (fun k_ => (w.heap.size ≤ k_)) (.slice (some ad160) x160000_2.length co26) x160000_2) := ⟨by rw [← hq_]; exact (by (with_reducible repeat (first | apply Kd.R_alloc | apply Kd.R_drewN | apply Kd.R_drew)); exact HO_160000.out)⟩; have n3_ : Aside0 (Kd.N (Kd.slice 2 (Kd.int .i64)) 48 w30 w.heap.size (fun k_ => (w.heap.size ≤ k_) ∧ some k_ ≠ (v162 : Value).ownBlock ∧ some k_ ≠ (.slice Ao32 t164.length co32 : Value).ownBlock ∧ some k_ ≠ (.slice (some ad160) x160000_2.length co26 : Value).ownBlock ∧ k_ ≠ g ∧ k_ ≠ gb159) (.slice Ao31 x160001_2.length co31) x160001_2) := ⟨by rw [← hq_]; exact (by (with_reducible repeat (first | apply Kd.N_alloc | apply Kd.N_drewN | apply Kd.N_drew)); exact Kd.N_mono HO_160001.out (fun _ hk => by first | exact ⟨hk.1.1.1, ⟨hk.1.2, ⟨hk.2, ⟨hk.1.1.2.1, ⟨hk.1.1.2.2.2, hk.1.1.2.2.1⟩⟩⟩⟩⟩ | ((try simp only [and_assoc] at hk ⊢); first | (obtain ⟨h0_, h1_, h2_, h3_, h4_, h5_, h6_, h7_, h8_⟩ := hk; repeat' (first | assumption | refine ⟨?_, ?_⟩)) | (obtain ⟨h0_, h1_, h2_, h3_, h4_, h5_, h6_, h7_⟩ := hk; repeat' (first | assumption | refine ⟨?_, ?_⟩)) | (obtain ⟨h0_, h1_, h2_, h3_, h4_, h5_, h6_⟩ := hk; repeat' (first | assumption | refine ⟨?_, ?_⟩)) | (obtain ⟨h0_, h1_, h2_, h3_, h4_, h5_⟩ := hk; repeat' (first | assumption | refine ⟨?_, ?_⟩)) | (obtain ⟨h0_, h1_, h2_, h3_, h4_⟩ := hk; repeat' (first | assumption | refine ⟨?_, ?_⟩)) | (obtain ⟨h0_, h1_, h2_, h3_⟩ := hk; repeat' (first | assumption | refine ⟨?_, ?_⟩)) | (obtain ⟨h0_, h1_, h2_⟩ := hk; repeat' (first | assumption | refine ⟨?_, ?_⟩)) | (obtain ⟨h0_, h1_⟩ := hk; repeat' (first | assumption | refine ⟨?_, ?_⟩)))))⟩; have n4_ : Aside0 (w30.heap[gb159]? = some (.cells #[.slice (some ad160) x160000_2.length co26, .slice Ao31 x160001_2.length co31, .slice none 0 0] 62 (0, 0))) := ⟨by rw [← hq_]; exact (by (with_reducible repeat (first | refine blk_drewN ?_ _ | refine blk_drew ?_ | refine blk_alloc ?_ _)); exact BK159.out)⟩; have n5_ : Aside0 (IsS27 w0 w30 g t167 s0_1 s0_2) := ⟨by rw [← hq_]; exact (by repeat (first | (with_reducible first | exact HI0.out | apply IsS27.alloc | apply IsS27.drewN | apply IsS27.drew | apply IsS27.set_0 | refine IsS27.far ?_ NB0_159.out _) | exact HI0.out))⟩; have n6_ : Aside0 (KeepBut w w30 g none) := ⟨by rw [← hq_]; exact (by repeat (first | (with_reducible first | exact HK.out | apply KeepBut.set_ | apply keep_drewN | apply keep_drew | apply keep_alloc | refine keep_far ?_ GW159.out _) | exact HK.out))⟩; have n7_ : Aside0 (Below w0.heap.size w0 w30) := ⟨by rw [← hq_]; exact (by repeat (first | (with_reducible first | exact HB.out | apply below_alloc | apply pw_below_drewN | apply below_drew1 | refine below_set ?_ (IsS27.ge HI0.out) | refine below_set ?_ GE159.out) | exact HB.out))⟩; clear HO163 HO166 HO_160000 HO_160001 BK159 HI0 HK HB hq_; have HO163 := n0_; have HO166 := n1_; have HO_160000 := n2_; have HO_160001 := n3_; have BK159 := n4_; have HI0 := n5_; have HK := n6_; have HB := n7_; clear n0_ n1_ n2_ n3_ n4_ n5_ n6_ n7_)); have hnb33 := NB159_0.out; have hnc33 := NB0_159.out; have hcz34_0 : w30.cell? ⟨gb159, 0, none⟩ = some (.slice (some ad160) x160000_2.length co26) := (blk_cell BK159.out 0).trans rfl; have hcz34_1 : w30.cell? ⟨gb159, 1, none⟩ = some (.slice Ao31 x160001_2.length co31) := (blk_cell BK159.out 1).trans rfl; have hcz34_2 : w30.cell? ⟨gb159, 2, none⟩ = some (.slice none 0 0) := (blk_cell BK159.out 2).trans rfl; have hfz34_0 := blk_frozen BK159.out 0; have hfz34_1 := blk_frozen BK159.out 1; have hfz34_2 := blk_frozen BK159.out 2) | ((with_reducible refine gate_builtin (b := .append) (xs := #[.tmp 51, .tmp 53]) rfl ?_); at_builtin; refine Kd.R_append Kd.string w.heap.size rfl (.tmp 51) (.tmp 53) 38 9 (.string ⟨#[]⟩) 16 rfl Try.underlying38 info9 rfl (by decide) (by omega) (.slice (some ad160) x160000_2.length co26) x160000_2 ((rdOf ByteArray.empty x160000_2 x5_1) ++ (strOfNums y161)) [.string ((rdOf ByteArray.empty x160000_2 x5_1) ++ (strOfNums y161))] (fun k_ => (w.heap.size ≤ k_)) (fun _ => False) rfl rfl ?aP (fun _ hk => hk.elim) ?aF ?aO (Below.refl _ _) ?aS ?aL ?_; (case aP => exact rfl); (case aF => exact (fun k_ hk => (Nat.le_trans (keep_size (w := w) (g := g) (row := none) (by repeat (first | (with_reducible first | exact HK.out | apply KeepBut.set_ | apply keep_drewN | apply keep_drew | apply keep_alloc | refine keep_far ?_ GW159.out _) | exact HK.out))) hk))); (case aO => exact (by (with_reducible repeat (first | apply Kd.R_alloc | apply Kd.R_drewN | apply Kd.R_drew)); exact HO_160000.out)); (case aS => exact (keep_size (w := w) (g := g) (row := none) (by repeat (first | (with_reducible first | exact HK.out | apply KeepBut.set_ | apply keep_drewN | apply keep_drew | apply keep_alloc | refine keep_far ?_ GW159.out _) | exact HK.out)))); (case aL => have := LMc23.out; omega); intro v170 w35 ho hb hg hat; rw [← Ny169.out] at ho; have n0_ := Aside0.mk (Kd.N_afterv (ok := (fun k_ => (w.heap.size ≤ k_) ∧ some k_ ≠ (v162 : Value).ownBlock ∧ some k_ ≠ (.slice Ao32 t164.length co32 : Value).ownBlock ∧ k_ ≠ gb159 ∧ k_ ≠ g)) (by (with_reducible repeat (first | apply Kd.N_alloc | apply Kd.N_drewN | apply Kd.N_drew)); exact Kd.N_mono HO_160001.out (fun _ hk => by first | exact ⟨⟨hk.1.1.1, ⟨hk.1.2, ⟨hk.2, ⟨hk.1.1.2.2.1, hk.1.1.2.2.2⟩⟩⟩⟩, hk.1.1.2.1⟩ | ((try simp only [and_assoc] at hk ⊢); first | (obtain ⟨h0_, h1_, h2_, h3_, h4_, h5_, h6_, h7_, h8_⟩ := hk; repeat' (first | assumption | refine ⟨?_, ?_⟩)) | (obtain ⟨h0_, h1_, h2_, h3_, h4_, h5_, h6_, h7_⟩ := hk; repeat' (first | assumption | refine ⟨?_, ?_⟩)) | (obtain ⟨h0_, h1_, h2_, h3_, h4_, h5_, h6_⟩ := hk; repeat' (first | assumption | refine ⟨?_, ?_⟩)) | (obtain ⟨h0_, h1_, h2_, h3_, h4_, h5_⟩ := hk; repeat' (first | assumption | refine ⟨?_, ?_⟩)) | (obtain ⟨h0_, h1_, h2_, h3_, h4_⟩ := hk; repeat' (first | assumption | refine ⟨?_, ?_⟩)) | (obtain ⟨h0_, h1_, h2_, h3_⟩ := hk; repeat' (first | assumption | refine ⟨?_, ?_⟩)) | (obtain ⟨h0_, h1_, h2_⟩ := hk; repeat' (first | assumption | refine ⟨?_, ?_⟩)) | (obtain ⟨h0_, h1_⟩ := hk; repeat' (first | assumption | refine ⟨?_, ?_⟩))))) hg hat); have n1_ := Aside0.mk (blk_grown (g := gb159) (o := .cells #[.slice (some ad160) x160000_2.length co26, .slice Ao31 x160001_2.length co31, .slice none 0 0] 62 (0, 0)) (by (with_reducible repeat (first | refine blk_drewN ?_ _ | refine blk_drew ?_ | refine blk_alloc ?_ _)); exact BK159.out) hg (Kd.R_ne HO_160000.out BK159.out (by decide))); have n2_ := Aside0.mk (IsS27.grown (by repeat (first | (with_reducible first | exact HI0.out | apply IsS27.alloc | apply IsS27.drewN | apply IsS27.drew | apply IsS27.set_0 | refine IsS27.far ?_ NB0_159.out _) | exact HI0.out)) hg (IsS27.own_ne HI0.out HO_160000.out (by decide))); have n3_ := Aside0.mk (Kd.R_over' (by (with_reducible repeat (first | apply Kd.R_alloc | apply Kd.R_drewN | apply Kd.R_drew)); exact HO163.out) (Kd.R_typed (by (with_reducible repeat (first | apply Kd.R_alloc | apply Kd.R_drewN | apply Kd.R_drew)); exact HO_160000.out)) (by decide) hg); have n4_ := Aside0.mk (Kd.R_over' (by (with_reducible repeat (first | apply Kd.R_alloc | apply Kd.R_drewN | apply Kd.R_drew)); exact HO166.out) (Kd.R_typed (by (with_reducible repeat (first | apply Kd.R_alloc | apply Kd.R_drewN | apply Kd.R_drew)); exact HO_160000.out)) (by decide) hg); have n5_ := Aside0.mk (below_weaken (by repeat (first | (with_reducible first | exact HB.out | apply below_alloc | apply pw_below_drewN | apply below_drew1 | refine below_set ?_ (IsS27.ge HI0.out) | refine below_set ?_ GE159.out) | exact HB.out)) HL.out hb); have n6_ := Aside0.mk (KeepBut.trans (by repeat (first | (with_reducible first | exact HK.out | apply KeepBut.set_ | apply keep_drewN | apply keep_drew | apply keep_alloc | refine keep_far ?_ GW159.out _) | exact HK.out)) (KeepBut.of_grown hg g) (Kd.R_base2 HO_160000.out)); have n7_ := Aside0.mk (ho); clear HO_160001; clear BK159; clear HI0; clear HO163; clear HO166; clear HB; clear HK; clear HO_160000; have HO_160001 := n0_; have BK159 := n1_; have HI0 := n2_; have HO163 := n3_; have HO166 := n4_; have HB := n5_; have HK := n6_; have HO171 := n7_; clear n0_ n1_ n2_ n3_ n4_ n5_ n6_ n7_; clear ho hb hg hat; obtain ⟨Ao36, co36, eo36⟩ := Kd.R_slice HO171.out; subst eo36; have hcz37_0 : w35.cell? ⟨gb159, 0, none⟩ = some (.slice (some ad160) x160000_2.length co26) := (blk_cell BK159.out 0).trans rfl; have hcz37_1 : w35.cell? ⟨gb159, 1, none⟩ = some (.slice Ao31 x160001_2.length co31) := (blk_cell BK159.out 1).trans rfl; have hcz37_2 : w35.cell? ⟨gb159, 2, none⟩ = some (.slice none 0 0) := (blk_cell BK159.out 2).trans rfl; have hfz37_0 := blk_frozen BK159.out 0; have hfz37_1 := blk_frozen BK159.out 1; have hfz37_2 := blk_frozen BK159.out 2) | ((with_reducible refine gate_store (t := 38) (p := 56) rfl ?_); refine store_event (t := 38) (p := 56) (v := ?vo_w38) (w1 := (w35.setCell ⟨gb159, 0, none⟩ (.slice Ao36 y169.length co36))) ?hg ?ho ?hn ?hr ?_; (case ho => rfl); (case hg => rfl); (case hn => rfl); (case hr => first | (go_simp; done) | (go_simp; rfl)); intro w38 hw; have n0_ : Aside0 (Kd.N (Kd.slice 2 (Kd.int .i64)) 48 w38 w.heap.size (fun k_ => (w.heap.size ≤ k_) ∧ some k_ ≠ (v162 : Value).ownBlock ∧ some k_ ≠ (.slice Ao32 t164.length co32 : Value).ownBlock ∧ some k_ ≠ (.slice Ao36 y169.length co36 : Value).ownBlock ∧ k_ ≠ gb159 ∧ k_ ≠ g) (.slice Ao31 x160001_2.length co31) x160001_2) := ⟨(by rw [hw]; exact (by (with_reducible repeat (first | apply Kd.N_alloc | apply Kd.N_drewN | apply Kd.N_drew)); exact Kd.N_mono (Kd.N_far (p := ⟨gb159, 0, none⟩) (Kd.N_mono HO_160001.out (fun k_ hk => (⟨hk, by first | exact hk.1.2.2.2.1 | ((try simp only [and_assoc] at hk ⊢); first | (obtain ⟨h0_, h1_, h2_, h3_, h4_, h5_, h6_, h7_, h8_⟩ := hk; repeat' (first | assumption | refine ⟨?_, ?_⟩)) | (obtain ⟨h0_, h1_, h2_, h3_, h4_, h5_, h6_, h7_⟩ := hk; repeat' (first | assumption | refine ⟨?_, ?_⟩)) | (obtain ⟨h0_, h1_, h2_, h3_, h4_, h5_, h6_⟩ := hk; repeat' (first | assumption | refine ⟨?_, ?_⟩)) | (obtain ⟨h0_, h1_, h2_, h3_, h4_, h5_⟩ := hk; repeat' (first | assumption | refine ⟨?_, ?_⟩)) | (obtain ⟨h0_, h1_, h2_, h3_, h4_⟩ := hk; repeat' (first | assumption | refine ⟨?_, ?_⟩)) | (obtain ⟨h0_, h1_, h2_, h3_⟩ := hk; repeat' (first | assumption | refine ⟨?_, ?_⟩)) | (obtain ⟨h0_, h1_, h2_⟩ := hk; repeat' (first | assumption | refine ⟨?_, ?_⟩)) | (obtain ⟨h0_, h1_⟩ := hk; repeat' (first | assumption | refine ⟨?_, ?_⟩)))⟩ : _ ∧ k_ ≠ gb159))) (fun _ hk => by first | exact hk.2 | ((try simp only [and_assoc] at hk ⊢); first | (obtain ⟨h0_, h1_, h2_, h3_, h4_, h5_, h6_, h7_, h8_⟩ := hk; repeat' (first | assumption | refine ⟨?_, ?_⟩)) | (obtain ⟨h0_, h1_, h2_, h3_, h4_, h5_, h6_, h7_⟩ := hk; repeat' (first | assumption | refine ⟨?_, ?_⟩)) | (obtain ⟨h0_, h1_, h2_, h3_, h4_, h5_, h6_⟩ := hk; repeat' (first | assumption | refine ⟨?_, ?_⟩)) | (obtain ⟨h0_, h1_, h2_, h3_, h4_, h5_⟩ := hk; repeat' (first | assumption | refine ⟨?_, ?_⟩)) | (obtain ⟨h0_, h1_, h2_, h3_, h4_⟩ := hk; repeat' (first | assumption | refine ⟨?_, ?_⟩)) | (obtain ⟨h0_, h1_, h2_, h3_⟩ := hk; repeat' (first | assumption | refine ⟨?_, ?_⟩)) | (obtain ⟨h0_, h1_, h2_⟩ := hk; repeat' (first | assumption | refine ⟨?_, ?_⟩)) | (obtain ⟨h0_, h1_⟩ := hk; repeat' (first | assumption | refine ⟨?_, ?_⟩)))) (.slice Ao36 y169.length co36)) (fun _ hk => by first | exact ⟨hk.1.1.1, ⟨hk.1.1.2.1, ⟨hk.1.1.2.2.1, ⟨hk.1.2, ⟨hk.1.1.2.2.2.1, hk.1.1.2.2.2.2⟩⟩⟩⟩⟩ | ((try simp only [and_assoc] at hk ⊢); first | (obtain ⟨h0_, h1_, h2_, h3_, h4_, h5_, h6_, h7_, h8_⟩ := hk; repeat' (first | assumption | refine ⟨?_, ?_⟩)) | (obtain ⟨h0_, h1_, h2_, h3_, h4_, h5_, h6_, h7_⟩ := hk; repeat' (first | assumption | refine ⟨?_, ?_⟩)) | (obtain ⟨h0_, h1_, h2_, h3_, h4_, h5_, h6_⟩ := hk; repeat' (first | assumption | refine ⟨?_, ?_⟩)) | (obtain ⟨h0_, h1_, h2_, h3_, h4_, h5_⟩ := hk; repeat' (first | assumption | refine ⟨?_, ?_⟩)) | (obtain ⟨h0_, h1_, h2_, h3_, h4_⟩ := hk; repeat' (first | assumption | refine ⟨?_, ?_⟩)) | (obtain ⟨h0_, h1_, h2_, h3_⟩ := hk; repeat' (first | assumption | refine ⟨?_, ?_⟩)) | (obtain ⟨h0_, h1_, h2_⟩ := hk; repeat' (first | assumption | refine ⟨?_, ?_⟩)) | (obtain ⟨h0_, h1_⟩ := hk; repeat' (first | assumption | refine ⟨?_, ?_⟩))))))⟩; have n1_ : Aside0 (Kd.R (Kd.int .u8) 5 w38 w.heap.size (fun k_ => (w.heap.size ≤ k_)) v162 y161) := ⟨(by rw [hw]; exact (by (with_reducible repeat (first | apply Kd.R_alloc | apply Kd.R_drewN | apply Kd.R_drew)); exact Kd.R_mono (Kd.R_far (p := ⟨gb159, 0, none⟩) (Kd.R_types HO163.out BK159.out (by decide)) (fun _ hk => by first | exact hk.2 | ((try simp only [and_assoc] at hk ⊢); first | (obtain ⟨h0_, h1_, h2_, h3_, h4_, h5_, h6_, h7_, h8_⟩ := hk; repeat' (first | assumption | refine ⟨?_, ?_⟩)) | (obtain ⟨h0_, h1_, h2_, h3_, h4_, h5_, h6_, h7_⟩ := hk; repeat' (first | assumption | refine ⟨?_, ?_⟩)) | (obtain ⟨h0_, h1_, h2_, h3_, h4_, h5_, h6_⟩ := hk; repeat' (first | assumption | refine ⟨?_, ?_⟩)) | (obtain ⟨h0_, h1_, h2_, h3_, h4_, h5_⟩ := hk; repeat' (first | assumption | refine ⟨?_, ?_⟩)) | (obtain ⟨h0_, h1_, h2_, h3_, h4_⟩ := hk; repeat' (first | assumption | refine ⟨?_, ?_⟩)) | (obtain ⟨h0_, h1_, h2_, h3_⟩ := hk; repeat' (first | assumption | refine ⟨?_, ?_⟩)) | (obtain ⟨h0_, h1_, h2_⟩ := hk; repeat' (first | assumption | refine ⟨?_, ?_⟩)) | (obtain ⟨h0_, h1_⟩ := hk; repeat' (first | assumption | refine ⟨?_, ?_⟩)))) (.slice Ao36 y169.length co36)) (fun _ hk => by first | exact hk.1.1 | ((try simp only [and_assoc] at hk ⊢); first | (obtain ⟨h0_, h1_, h2_, h3_, h4_, h5_, h6_, h7_, h8_⟩ := hk; repeat' (first | assumption | refine ⟨?_, ?_⟩)) | (obtain ⟨h0_, h1_, h2_, h3_, h4_, h5_, h6_, h7_⟩ := hk; repeat' (first | assumption | refine ⟨?_, ?_⟩)) | (obtain ⟨h0_, h1_, h2_, h3_, h4_, h5_, h6_⟩ := hk; repeat' (first | assumption | refine ⟨?_, ?_⟩)) | (obtain ⟨h0_, h1_, h2_, h3_, h4_, h5_⟩ := hk; repeat' (first | assumption | refine ⟨?_, ?_⟩)) | (obtain ⟨h0_, h1_, h2_, h3_, h4_⟩ := hk; repeat' (first | assumption | refine ⟨?_, ?_⟩)) | (obtain ⟨h0_, h1_, h2_, h3_⟩ := hk; repeat' (first | assumption | refine ⟨?_, ?_⟩)) | (obtain ⟨h0_, h1_, h2_⟩ := hk; repeat' (first | assumption | refine ⟨?_, ?_⟩)) | (obtain ⟨h0_, h1_⟩ := hk; repeat' (first | assumption | refine ⟨?_, ?_⟩))))))⟩; have n2_ : Aside0 (Kd.R (Kd.int .i64) 2 w38 w.heap.size (fun k_ => (w.heap.size ≤ k_)) (.slice Ao32 t164.length co32) t164) := ⟨(by rw [hw]; exact (by (with_reducible repeat (first | apply Kd.R_alloc | apply Kd.R_drewN | apply Kd.R_drew)); exact Kd.R_mono (Kd.R_far (p := ⟨gb159, 0, none⟩) (Kd.R_types HO166.out BK159.out (by decide)) (fun _ hk => by first | exact hk.2 | ((try simp only [and_assoc] at hk ⊢); first | (obtain ⟨h0_, h1_, h2_, h3_, h4_, h5_, h6_, h7_, h8_⟩ := hk; repeat' (first | assumption | refine ⟨?_, ?_⟩)) | (obtain ⟨h0_, h1_, h2_, h3_, h4_, h5_, h6_, h7_⟩ := hk; repeat' (first | assumption | refine ⟨?_, ?_⟩)) | (obtain ⟨h0_, h1_, h2_, h3_, h4_, h5_, h6_⟩ := hk; repeat' (first | assumption | refine ⟨?_, ?_⟩)) | (obtain ⟨h0_, h1_, h2_, h3_, h4_, h5_⟩ := hk; repeat' (first | assumption | refine ⟨?_, ?_⟩)) | (obtain ⟨h0_, h1_, h2_, h3_, h4_⟩ := hk; repeat' (first | assumption | refine ⟨?_, ?_⟩)) | (obtain ⟨h0_, h1_, h2_, h3_⟩ := hk; repeat' (first | assumption | refine ⟨?_, ?_⟩)) | (obtain ⟨h0_, h1_, h2_⟩ := hk; repeat' (first | assumption | refine ⟨?_, ?_⟩)) | (obtain ⟨h0_, h1_⟩ := hk; repeat' (first | assumption | refine ⟨?_, ?_⟩)))) (.slice Ao36 y169.length co36)) (fun _ hk => by first | exact hk.1.1 | ((try simp only [and_assoc] at hk ⊢); first | (obtain ⟨h0_, h1_, h2_, h3_, h4_, h5_, h6_, h7_, h8_⟩ := hk; repeat' (first | assumption | refine ⟨?_, ?_⟩)) | (obtain ⟨h0_, h1_, h2_, h3_, h4_, h5_, h6_, h7_⟩ := hk; repeat' (first | assumption | refine ⟨?_, ?_⟩)) | (obtain ⟨h0_, h1_, h2_, h3_, h4_, h5_, h6_⟩ := hk; repeat' (first | assumption | refine ⟨?_, ?_⟩)) | (obtain ⟨h0_, h1_, h2_, h3_, h4_, h5_⟩ := hk; repeat' (first | assumption | refine ⟨?_, ?_⟩)) | (obtain ⟨h0_, h1_, h2_, h3_, h4_⟩ := hk; repeat' (first | assumption | refine ⟨?_, ?_⟩)) | (obtain ⟨h0_, h1_, h2_, h3_⟩ := hk; repeat' (first | assumption | refine ⟨?_, ?_⟩)) | (obtain ⟨h0_, h1_, h2_⟩ := hk; repeat' (first | assumption | refine ⟨?_, ?_⟩)) | (obtain ⟨h0_, h1_⟩ := hk; repeat' (first | assumption | refine ⟨?_, ?_⟩))))))⟩; have n3_ : Aside0 (Kd.R Kd.string 9 w38 w.heap.size (fun k_ => (w.heap.size ≤ k_)) (.slice Ao36 y169.length co36) y169) := ⟨(by rw [hw]; exact (by (with_reducible repeat (first | apply Kd.R_alloc | apply Kd.R_drewN | apply Kd.R_drew)); exact Kd.R_mono (Kd.R_far (p := ⟨gb159, 0, none⟩) (Kd.R_types HO171.out BK159.out (by decide)) (fun _ hk => by first | exact hk.2 | ((try simp only [and_assoc] at hk ⊢); first | (obtain ⟨h0_, h1_, h2_, h3_, h4_, h5_, h6_, h7_, h8_⟩ := hk; repeat' (first | assumption | refine ⟨?_, ?_⟩)) | (obtain ⟨h0_, h1_, h2_, h3_, h4_, h5_, h6_, h7_⟩ := hk; repeat' (first | assumption | refine ⟨?_, ?_⟩)) | (obtain ⟨h0_, h1_, h2_, h3_, h4_, h5_, h6_⟩ := hk; repeat' (first | assumption | refine ⟨?_, ?_⟩)) | (obtain ⟨h0_, h1_, h2_, h3_, h4_, h5_⟩ := hk; repeat' (first | assumption | refine ⟨?_, ?_⟩)) | (obtain ⟨h0_, h1_, h2_, h3_, h4_⟩ := hk; repeat' (first | assumption | refine ⟨?_, ?_⟩)) | (obtain ⟨h0_, h1_, h2_, h3_⟩ := hk; repeat' (first | assumption | refine ⟨?_, ?_⟩)) | (obtain ⟨h0_, h1_, h2_⟩ := hk; repeat' (first | assumption | refine ⟨?_, ?_⟩)) | (obtain ⟨h0_, h1_⟩ := hk; repeat' (first | assumption | refine ⟨?_, ?_⟩)))) (.slice Ao36 y169.length co36)) (fun _ hk => by first | exact hk.1 | ((try simp only [and_assoc] at hk ⊢); first | (obtain ⟨h0_, h1_, h2_, h3_, h4_, h5_, h6_, h7_, h8_⟩ := hk; repeat' (first | assumption | refine ⟨?_, ?_⟩)) | (obtain ⟨h0_, h1_, h2_, h3_, h4_, h5_, h6_, h7_⟩ := hk; repeat' (first | assumption | refine ⟨?_, ?_⟩)) | (obtain ⟨h0_, h1_, h2_, h3_, h4_, h5_, h6_⟩ := hk; repeat' (first | assumption | refine ⟨?_, ?_⟩)) | (obtain ⟨h0_, h1_, h2_, h3_, h4_, h5_⟩ := hk; repeat' (first | assumption | refine ⟨?_, ?_⟩)) | (obtain ⟨h0_, h1_, h2_, h3_, h4_⟩ := hk; repeat' (first | assumption | refine ⟨?_, ?_⟩)) | (obtain ⟨h0_, h1_, h2_, h3_⟩ := hk; repeat' (first | assumption | refine ⟨?_, ?_⟩)) | (obtain ⟨h0_, h1_, h2_⟩ := hk; repeat' (first | assumption | refine ⟨?_, ?_⟩)) | (obtain ⟨h0_, h1_⟩ := hk; repeat' (first | assumption | refine ⟨?_, ?_⟩))))))⟩; have n4_ : Aside0 (w38.heap[gb159]? = some (.cells #[.slice Ao36 y169.length co36, .slice Ao31 x160001_2.length co31, .slice none 0 0] 62 (0, 0))) := ⟨(by rw [hw]; exact (by (with_reducible repeat (first | refine blk_drewN ?_ _ | refine blk_drew ?_ | refine blk_alloc ?_ _)); refine blk_put (cs := #[.slice (some ad160) x160000_2.length co26, .slice Ao31 x160001_2.length co31, .slice none 0 0]) ?_ 0 _ rfl; (with_reducible repeat (first | refine blk_drewN ?_ _ | refine blk_drew ?_ | refine blk_alloc ?_ _)); exact BK159.out))⟩; have n5_ : Aside0 (IsS27 w0 w38 g t167 s0_1 s0_2) := ⟨(by rw [hw]; exact (by repeat (first | (with_reducible first | exact HI0.out | apply IsS27.alloc | apply IsS27.drewN | apply IsS27.drew | apply IsS27.set_0 | refine IsS27.far ?_ NB0_159.out _) | exact HI0.out)))⟩; have n6_ : Aside0 (KeepBut w w38 g none) := ⟨(by rw [hw]; exact (by repeat (first | (with_reducible first | exact HK.out | apply KeepBut.set_ | apply keep_drewN | apply keep_drew | apply keep_alloc | refine keep_far ?_ GW159.out _) | exact HK.out)))⟩; have n7_ : Aside0 (Below w0.heap.size w0 w38) := ⟨(by rw [hw]; exact (by repeat (first | (with_reducible first | exact HB.out | apply below_alloc | apply pw_below_drewN | apply below_drew1 | refine below_set ?_ (IsS27.ge HI0.out) | refine below_set ?_ GE159.out) | exact HB.out)))⟩; clear hw; clear HO_160001; clear HO163; clear HO166; clear HO171; clear BK159; clear HI0; clear HK; clear HB; have HO_160001 := n0_; have HO163 := n1_; have HO166 := n2_; have HO171 := n3_; have BK159 := n4_; have HI0 := n5_; have HK := n6_; have HB := n7_; clear n0_ n1_ n2_ n3_ n4_ n5_ n6_ n7_; have hcz39_0 : w38.cell? ⟨gb159, 0, none⟩ = some (.slice Ao36 y169.length co36) := (blk_cell BK159.out 0).trans rfl; have hcz39_1 : w38.cell? ⟨gb159, 1, none⟩ = some (.slice Ao31 x160001_2.length co31) := (blk_cell BK159.out 1).trans rfl; have hcz39_2 : w38.cell? ⟨gb159, 2, none⟩ = some (.slice none 0 0) := (blk_cell BK159.out 2).trans rfl; have hfz39_0 := blk_frozen BK159.out 0; have hfz39_1 := blk_frozen BK159.out 1; have hfz39_2 := blk_frozen BK159.out 2) | ((with_reducible refine gate_builtin (b := .append) (xs := #[.tmp 61, .tmp 63]) rfl ?_); at_builtin; refine Kd.N_append (Kd.slice 2 (Kd.int .i64)) w.heap.size rfl (.tmp 61) (.tmp 63) 22 48 (.slice none 0 0) 24 rfl Try.underlying22 info48 rfl (by decide) (by omega) (.slice Ao31 x160001_2.length co31) x160001_2 t164 [.slice Ao32 t164.length co32] (fun k_ => (w.heap.size ≤ k_) ∧ some k_ ≠ (v162 : Value).ownBlock ∧ some k_ ≠ (.slice Ao36 y169.length co36 : Value).ownBlock ∧ k_ ≠ gb159 ∧ k_ ≠ g) (fun k_ => ((fun k_ => (w.heap.size ≤ k_) ∧ some k_ ≠ (v162 : Value).ownBlock ∧ some k_ ≠ (.slice Ao36 y169.length co36 : Value).ownBlock ∧ k_ ≠ gb159 ∧ k_ ≠ g)) k_ ∧ some k_ ≠ (.slice Ao31 x160001_2.length co31 : Value).ownBlock) rfl rfl ?aP (fun _ hk => hk) ?aF ?aO (Below.refl _ _) ?aS ?aL ?_; (case aP => exact (Kd.FK_slice_mk (Kd.R_reads' (Kd.R_mono (ok' := (fun k_ => ((fun k_ => (w.heap.size ≤ k_) ∧ some k_ ≠ (v162 : Value).ownBlock ∧ some k_ ≠ (.slice Ao36 y169.length co36 : Value).ownBlock ∧ k_ ≠ gb159 ∧ k_ ≠ g)) k_ ∧ some k_ ≠ (.slice Ao31 x160001_2.length co31 : Value).ownBlock)) (IsS27.apart HI0.out (Kd.R_types (Kd.R_apart' (Kd.R_apart' (Kd.R_apart' (HO166.out) (Kd.R_typed HO163.out) (by decide)) (Kd.R_typed HO171.out) (by decide)) (Kd.N_typed HO_160001.out) (by decide)) BK159.out (by decide)) (by decide)) (fun k_ hk => by first | exact ⟨⟨hk.1.1.1.1.1, ⟨hk.1.1.1.1.2, ⟨hk.1.1.1.2, ⟨hk.1.2, hk.2⟩⟩⟩⟩, hk.1.1.2⟩ | ((try simp only [and_assoc] at hk ⊢); first | (obtain ⟨h0_, h1_, h2_, h3_, h4_, h5_, h6_, h7_, h8_⟩ := hk; repeat' (first | assumption | refine ⟨?_, ?_⟩)) | (obtain ⟨h0_, h1_, h2_, h3_, h4_, h5_, h6_, h7_⟩ := hk; repeat' (first | assumption | refine ⟨?_, ?_⟩)) | (obtain ⟨h0_, h1_, h2_, h3_, h4_, h5_, h6_⟩ := hk; repeat' (first | assumption | refine ⟨?_, ?_⟩)) | (obtain ⟨h0_, h1_, h2_, h3_, h4_, h5_⟩ := hk; repeat' (first | assumption | refine ⟨?_, ?_⟩)) | (obtain ⟨h0_, h1_, h2_, h3_, h4_⟩ := hk; repeat' (first | assumption | refine ⟨?_, ?_⟩)) | (obtain ⟨h0_, h1_, h2_, h3_⟩ := hk; repeat' (first | assumption | refine ⟨?_, ?_⟩)) | (obtain ⟨h0_, h1_, h2_⟩ := hk; repeat' (first | assumption | refine ⟨?_, ?_⟩)) | (obtain ⟨h0_, h1_⟩ := hk; repeat' (first | assumption | refine ⟨?_, ?_⟩)))))).2.1 (Kd.R_F (Kd.R_mono (ok' := (fun k_ => ((fun k_ => (w.heap.size ≤ k_) ∧ some k_ ≠ (v162 : Value).ownBlock ∧ some k_ ≠ (.slice Ao36 y169.length co36 : Value).ownBlock ∧ k_ ≠ gb159 ∧ k_ ≠ g)) k_ ∧ some k_ ≠ (.slice Ao31 x160001_2.length co31 : Value).ownBlock)) (IsS27.apart HI0.out (Kd.R_types (Kd.R_apart' (Kd.R_apart' (Kd.R_apart' (HO166.out) (Kd.R_typed HO163.out) (by decide)) (Kd.R_typed HO171.out) (by decide)) (Kd.N_typed HO_160001.out) (by decide)) BK159.out (by decide)) (by decide)) (fun k_ hk => by first | exact ⟨⟨hk.1.1.1.1.1, ⟨hk.1.1.1.1.2, ⟨hk.1.1.1.2, ⟨hk.1.2, hk.2⟩⟩⟩⟩, hk.1.1.2⟩ | ((try simp only [and_assoc] at hk ⊢); first | (obtain ⟨h0_, h1_, h2_, h3_, h4_, h5_, h6_, h7_, h8_⟩ := hk; repeat' (first | assumption | refine ⟨?_, ?_⟩)) | (obtain ⟨h0_, h1_, h2_, h3_, h4_, h5_, h6_, h7_⟩ := hk; repeat' (first | assumption | refine ⟨?_, ?_⟩)) | (obtain ⟨h0_, h1_, h2_, h3_, h4_, h5_, h6_⟩ := hk; repeat' (first | assumption | refine ⟨?_, ?_⟩)) | (obtain ⟨h0_, h1_, h2_, h3_, h4_, h5_⟩ := hk; repeat' (first | assumption | refine ⟨?_, ?_⟩)) | (obtain ⟨h0_, h1_, h2_, h3_, h4_⟩ := hk; repeat' (first | assumption | refine ⟨?_, ?_⟩)) | (obtain ⟨h0_, h1_, h2_, h3_⟩ := hk; repeat' (first | assumption | refine ⟨?_, ?_⟩)) | (obtain ⟨h0_, h1_, h2_⟩ := hk; repeat' (first | assumption | refine ⟨?_, ?_⟩)) | (obtain ⟨h0_, h1_⟩ := hk; repeat' (first | assumption | refine ⟨?_, ?_⟩)))))))); (case aF => exact (fun k_ hk => ⟨(Nat.le_trans (keep_size (w := w) (g := g) (row := none) (by repeat (first | (with_reducible first | exact HK.out | apply KeepBut.set_ | apply keep_drewN | apply keep_drew | apply keep_alloc | refine keep_far ?_ GW159.out _) | exact HK.out))) hk), Kd.fresh' (Kd.R_lt (by (with_reducible repeat (first | apply Kd.R_alloc | apply Kd.R_drewN | apply Kd.R_drew)); exact HO163.out)) k_ hk, Kd.fresh' (Kd.R_lt (by (with_reducible repeat (first | apply Kd.R_alloc | apply Kd.R_drewN | apply Kd.R_drew)); exact HO171.out)) k_ hk, Kd.freshB (g := gb159) (o := .cells #[.slice Ao36 y169.length co36, .slice Ao31 x160001_2.length co31, .slice none 0 0] 62 (0, 0)) (by (with_reducible repeat (first | refine blk_drewN ?_ _ | refine blk_drew ?_ | refine blk_alloc ?_ _)); exact BK159.out) k_ hk, IsS27.fresh (by repeat (first | (with_reducible first | exact HI0.out | apply IsS27.alloc | apply IsS27.drewN | apply IsS27.drew | apply IsS27.set_0 | refine IsS27.far ?_ NB0_159.out _) | exact HI0.out)) k_ hk⟩)); (case aO => exact (by (with_reducible repeat (first | apply Kd.N_alloc | apply Kd.N_drewN | apply Kd.N_drew)); exact Kd.N_mono HO_160001.out (fun _ hk => by first | exact ⟨hk.1, ⟨hk.2.1, ⟨hk.2.2.2.1, ⟨hk.2.2.2.2.1, hk.2.2.2.2.2⟩⟩⟩⟩ | ((try simp only [and_assoc] at hk ⊢); first | (obtain ⟨h0_, h1_, h2_, h3_, h4_, h5_, h6_, h7_, h8_⟩ := hk; repeat' (first | assumption | refine ⟨?_, ?_⟩)) | (obtain ⟨h0_, h1_, h2_, h3_, h4_, h5_, h6_, h7_⟩ := hk; repeat' (first | assumption | refine ⟨?_, ?_⟩)) | (obtain ⟨h0_, h1_, h2_, h3_, h4_, h5_, h6_⟩ := hk; repeat' (first | assumption | refine ⟨?_, ?_⟩)) | (obtain ⟨h0_, h1_, h2_, h3_, h4_, h5_⟩ := hk; repeat' (first | assumption | refine ⟨?_, ?_⟩)) | (obtain ⟨h0_, h1_, h2_, h3_, h4_⟩ := hk; repeat' (first | assumption | refine ⟨?_, ?_⟩)) | (obtain ⟨h0_, h1_, h2_, h3_⟩ := hk; repeat' (first | assumption | refine ⟨?_, ?_⟩)) | (obtain ⟨h0_, h1_, h2_⟩ := hk; repeat' (first | assumption | refine ⟨?_, ?_⟩)) | (obtain ⟨h0_, h1_⟩ := hk; repeat' (first | assumption | refine ⟨?_, ?_⟩)))))); (case aS => exact (keep_size (w := w) (g := g) (row := none) (by repeat (first | (with_reducible first | exact HK.out | apply KeepBut.set_ | apply keep_drewN | apply keep_drew | apply keep_alloc | refine keep_far ?_ GW159.out _) | exact HK.out)))); (case aL => have := LMc24.out; omega); intro v173 w40 ho hb hg hat; rw [← Ny172.out] at ho; have n0_ := Aside0.mk (blk_grown (g := gb159) (o := .cells #[.slice Ao36 y169.length co36, .slice Ao31 x160001_2.length co31, .slice none 0 0] 62 (0, 0)) (by (with_reducible repeat (first | refine blk_drewN ?_ _ | refine blk_drew ?_ | refine blk_alloc ?_ _)); exact BK159.out) hg (Kd.N_ne HO_160001.out BK159.out (by decide))); have n1_ := Aside0.mk (IsS27.grown (by repeat (first | (with_reducible first | exact HI0.out | apply IsS27.alloc | apply IsS27.drewN | apply IsS27.drew | apply IsS27.set_0 | refine IsS27.far ?_ NB0_159.out _) | exact HI0.out)) hg (IsS27.own_neN HI0.out HO_160001.out (by decide))); have n2_ := Aside0.mk (Kd.R_over' (by (with_reducible repeat (first | apply Kd.R_alloc | apply Kd.R_drewN | apply Kd.R_drew)); exact HO163.out) (Kd.N_typed (by (with_reducible repeat (first | apply Kd.N_alloc | apply Kd.N_drewN | apply Kd.N_drew)); exact HO_160001.out)) (by decide) hg); have n3_ := Aside0.mk (Kd.R_over' (by (with_reducible repeat (first | apply Kd.R_alloc | apply Kd.R_drewN | apply Kd.R_drew)); exact HO171.out) (Kd.N_typed (by (with_reducible repeat (first | apply Kd.N_alloc | apply Kd.N_drewN | apply Kd.N_drew)); exact HO_160001.out)) (by decide) hg); have n4_ := Aside0.mk (below_weaken (by repeat (first | (with_reducible first | exact HB.out | apply below_alloc | apply pw_below_drewN | apply below_drew1 | refine below_set ?_ (IsS27.ge HI0.out) | refine below_set ?_ GE159.out) | exact HB.out)) HL.out hb); have n5_ := Aside0.mk (KeepBut.trans (by repeat (first | (with_reducible first | exact HK.out | apply KeepBut.set_ | apply keep_drewN | apply keep_drew | apply keep_alloc | refine keep_far ?_ GW159.out _) | exact HK.out)) (KeepBut.of_grown hg g) (Kd.N_base2 HO_160001.out)); have n6_ := Aside0.mk (ho); clear BK159; clear HI0; clear HO163; clear HO171; clear HB; clear HK; clear HO_160001; clear HO166; have BK159 := n0_; have HI0 := n1_; have HO163 := n2_; have HO171 := n3_; have HB := n4_; have HK := n5_; have HO174 := n6_; clear n0_ n1_ n2_ n3_ n4_ n5_ n6_; clear ho hb hg hat; obtain ⟨Ao41, co41, eo41⟩ := Kd.N_slice HO174.out; subst eo41; have hcz42_0 : w40.cell? ⟨gb159, 0, none⟩ = some (.slice Ao36 y169.length co36) := (blk_cell BK159.out 0).trans rfl; have hcz42_1 : w40.cell? ⟨gb159, 1, none⟩ = some (.slice Ao31 x160001_2.length co31) := (blk_cell BK159.out 1).trans rfl; have hcz42_2 : w40.cell? ⟨gb159, 2, none⟩ = some (.slice none 0 0) := (blk_cell BK159.out 2).trans rfl; have hfz42_0 := blk_frozen BK159.out 0; have hfz42_1 := blk_frozen BK159.out 1; have hfz42_2 := blk_frozen BK159.out 2))
                          go_roundg k2
                          case measure => have := HK1.out; have := HK2.out; omega
                          case rel => exact ⟨((x6_2 + 1) % 256), (t167), (y169), (y172), (.slice Ao36 y169.length co36), (.slice Ao41 y172.length co41), (by first | rfl | (simp; done) | (simp [*]; done)), H', ⟨by have := HK1.out; have := HK2.out; omega⟩, ⟨by (with_reducible repeat (first | apply Kd.R_alloc | apply Kd.R_drewN | apply Kd.R_drew)); exact Kd.R_mono (Kd.R_far (p := ⟨gb159, 1, none⟩) (Kd.R_types HO171.out BK159.out (by decide)) (fun _ hk => by first | exact hk.2 | ((try simp only [and_assoc] at hk ⊢); first | (obtain ⟨h0_, h1_, h2_, h3_, h4_, h5_, h6_, h7_, h8_⟩ := hk; repeat' (first | assumption | refine ⟨?_, ?_⟩)) | (obtain ⟨h0_, h1_, h2_, h3_, h4_, h5_, h6_, h7_⟩ := hk; repeat' (first | assumption | refine ⟨?_, ?_⟩)) | (obtain ⟨h0_, h1_, h2_, h3_, h4_, h5_, h6_⟩ := hk; repeat' (first | assumption | refine ⟨?_, ?_⟩)) | (obtain ⟨h0_, h1_, h2_, h3_, h4_, h5_⟩ := hk; repeat' (first | assumption | refine ⟨?_, ?_⟩)) | (obtain ⟨h0_, h1_, h2_, h3_, h4_⟩ := hk; repeat' (first | assumption | refine ⟨?_, ?_⟩)) | (obtain ⟨h0_, h1_, h2_, h3_⟩ := hk; repeat' (first | assumption | refine ⟨?_, ?_⟩)) | (obtain ⟨h0_, h1_, h2_⟩ := hk; repeat' (first | assumption | refine ⟨?_, ?_⟩)) | (obtain ⟨h0_, h1_⟩ := hk; repeat' (first | assumption | refine ⟨?_, ?_⟩)))) (.slice Ao41 y172.length co41)) (fun _ hk => by first | exact hk.1 | ((try simp only [and_assoc] at hk ⊢); first | (obtain ⟨h0_, h1_, h2_, h3_, h4_, h5_, h6_, h7_, h8_⟩ := hk; repeat' (first | assumption | refine ⟨?_, ?_⟩)) | (obtain ⟨h0_, h1_, h2_, h3_, h4_, h5_, h6_, h7_⟩ := hk; repeat' (first | assumption | refine ⟨?_, ?_⟩)) | (obtain ⟨h0_, h1_, h2_, h3_, h4_, h5_, h6_⟩ := hk; repeat' (first | assumption | refine ⟨?_, ?_⟩)) | (obtain ⟨h0_, h1_, h2_, h3_, h4_, h5_⟩ := hk; repeat' (first | assumption | refine ⟨?_, ?_⟩)) | (obtain ⟨h0_, h1_, h2_, h3_, h4_⟩ := hk; repeat' (first | assumption | refine ⟨?_, ?_⟩)) | (obtain ⟨h0_, h1_, h2_, h3_⟩ := hk; repeat' (first | assumption | refine ⟨?_, ?_⟩)) | (obtain ⟨h0_, h1_, h2_⟩ := hk; repeat' (first | assumption | refine ⟨?_, ?_⟩)) | (obtain ⟨h0_, h1_⟩ := hk; repeat' (first | assumption | refine ⟨?_, ?_⟩))))⟩, ⟨by (with_reducible repeat (first | apply Kd.N_alloc | apply Kd.N_drewN | apply Kd.N_drew)); exact Kd.N_mono (Kd.N_far (p := ⟨gb159, 1, none⟩) (Kd.N_mono HO174.out (fun k_ hk => (⟨hk, by first | exact hk.2.2.2.1 | ((try simp only [and_assoc] at hk ⊢); first | (obtain ⟨h0_, h1_, h2_, h3_, h4_, h5_, h6_, h7_, h8_⟩ := hk; repeat' (first | assumption | refine ⟨?_, ?_⟩)) | (obtain ⟨h0_, h1_, h2_, h3_, h4_, h5_, h6_, h7_⟩ := hk; repeat' (first | assumption | refine ⟨?_, ?_⟩)) | (obtain ⟨h0_, h1_, h2_, h3_, h4_, h5_, h6_⟩ := hk; repeat' (first | assumption | refine ⟨?_, ?_⟩)) | (obtain ⟨h0_, h1_, h2_, h3_, h4_, h5_⟩ := hk; repeat' (first | assumption | refine ⟨?_, ?_⟩)) | (obtain ⟨h0_, h1_, h2_, h3_, h4_⟩ := hk; repeat' (first | assumption | refine ⟨?_, ?_⟩)) | (obtain ⟨h0_, h1_, h2_, h3_⟩ := hk; repeat' (first | assumption | refine ⟨?_, ?_⟩)) | (obtain ⟨h0_, h1_, h2_⟩ := hk; repeat' (first | assumption | refine ⟨?_, ?_⟩)) | (obtain ⟨h0_, h1_⟩ := hk; repeat' (first | assumption | refine ⟨?_, ?_⟩)))⟩ : _ ∧ k_ ≠ gb159))) (fun _ hk => by first | exact hk.2 | ((try simp only [and_assoc] at hk ⊢); first | (obtain ⟨h0_, h1_, h2_, h3_, h4_, h5_, h6_, h7_, h8_⟩ := hk; repeat' (first | assumption | refine ⟨?_, ?_⟩)) | (obtain ⟨h0_, h1_, h2_, h3_, h4_, h5_, h6_, h7_⟩ := hk; repeat' (first | assumption | refine ⟨?_, ?_⟩)) | (obtain ⟨h0_, h1_, h2_, h3_, h4_, h5_, h6_⟩ := hk; repeat' (first | assumption | refine ⟨?_, ?_⟩)) | (obtain ⟨h0_, h1_, h2_, h3_, h4_, h5_⟩ := hk; repeat' (first | assumption | refine ⟨?_, ?_⟩)) | (obtain ⟨h0_, h1_, h2_, h3_, h4_⟩ := hk; repeat' (first | assumption | refine ⟨?_, ?_⟩)) | (obtain ⟨h0_, h1_, h2_, h3_⟩ := hk; repeat' (first | assumption | refine ⟨?_, ?_⟩)) | (obtain ⟨h0_, h1_, h2_⟩ := hk; repeat' (first | assumption | refine ⟨?_, ?_⟩)) | (obtain ⟨h0_, h1_⟩ := hk; repeat' (first | assumption | refine ⟨?_, ?_⟩)))) (.slice Ao41 y172.length co41)) (fun _ hk => by first | exact ⟨hk.1.1, ⟨hk.1.2.2.1, ⟨hk.1.2.2.2.1, hk.1.2.2.2.2⟩⟩⟩ | ((try simp only [and_assoc] at hk ⊢); first | (obtain ⟨h0_, h1_, h2_, h3_, h4_, h5_, h6_, h7_, h8_⟩ := hk; repeat' (first | assumption | refine ⟨?_, ?_⟩)) | (obtain ⟨h0_, h1_, h2_, h3_, h4_, h5_, h6_, h7_⟩ := hk; repeat' (first | assumption | refine ⟨?_, ?_⟩)) | (obtain ⟨h0_, h1_, h2_, h3_, h4_, h5_, h6_⟩ := hk; repeat' (first | assumption | refine ⟨?_, ?_⟩)) | (obtain ⟨h0_, h1_, h2_, h3_, h4_, h5_⟩ := hk; repeat' (first | assumption | refine ⟨?_, ?_⟩)) | (obtain ⟨h0_, h1_, h2_, h3_, h4_⟩ := hk; repeat' (first | assumption | refine ⟨?_, ?_⟩)) | (obtain ⟨h0_, h1_, h2_, h3_⟩ := hk; repeat' (first | assumption | refine ⟨?_, ?_⟩)) | (obtain ⟨h0_, h1_, h2_⟩ := hk; repeat' (first | assumption | refine ⟨?_, ?_⟩)) | (obtain ⟨h0_, h1_⟩ := hk; repeat' (first | assumption | refine ⟨?_, ?_⟩))))⟩, ⟨by (with_reducible repeat (first | refine blk_drewN ?_ _ | refine blk_drew ?_ | refine blk_alloc ?_ _)); refine blk_put (cs := #[.slice Ao36 y169.length co36, .slice Ao31 x160001_2.length co31, .slice none 0 0]) ?_ 1 _ rfl; (with_reducible repeat (first | refine blk_drewN ?_ _ | refine blk_drew ?_ | refine blk_alloc ?_ _)); exact BK159.out⟩, ⟨by repeat (first | (with_reducible first | exact HI0.out | apply IsS27.alloc | apply IsS27.drewN | apply IsS27.drew | apply IsS27.set_0 | refine IsS27.far ?_ NB0_159.out _) | exact HI0.out)⟩, ⟨by repeat (first | (with_reducible first | exact HK.out | apply KeepBut.set_ | apply keep_drewN | apply keep_drew | apply keep_alloc | refine keep_far ?_ GW159.out _) | exact HK.out)⟩, ⟨by repeat (first | (with_reducible first | exact HB.out | apply below_alloc | apply pw_below_drewN | apply below_drew1 | refine below_set ?_ (IsS27.ge HI0.out) | refine below_set ?_ GE159.out) | exact HB.out)⟩⟩
                        · rw [if_neg c24] at H
                          exact absurd H (by simp)
                      · rw [if_neg c23] at H
                        exact absurd H (by simp)
                    · rw [if_neg c22] at H
                      have c22b0 : decide (t168 < 0) = false := decide_eq_false c22
                      clear c22
                      have H' := Aside0.mk H
                      clear H
                      try go_wp2
                      have n0_ := Aside0.mk (Kd.R_drew HO_160000.out)
                      have n1_ := Aside0.mk (Kd.N_drew HO_160001.out)
                      have n2_ := Aside0.mk (blk_drew BK159.out)
                      have n3_ := Aside0.mk (IsS27.drew HI0.out)
                      have n4_ := Aside0.mk (keep_drew HK.out)
                      have n5_ := Aside0.mk (below_drew1 HB.out)
                      clear HO_160000
                      clear HO_160001
                      clear BK159
                      clear HI0
                      clear HK
                      clear HB
                      have HO_160000 := n0_
                      have HO_160001 := n1_
                      have BK159 := n2_
                      have HI0 := n3_
                      have HK := n4_
                      have HB := n5_
                      clear n0_ n1_ n2_ n3_ n4_ n5_
                      obtain ⟨Ao44, co44, eo44⟩ := Kd.R_slice HO_160000.out
                      (first | subst eo44 | (injection eo44 with f1_ f2_ f3_; have f4_ := f1_.symm; have f5_ := f3_.symm; clear f1_ f2_ f3_; subst f4_; subst f5_))
                      have p160 : 0 ≤ (x5_1 : Int) := of_decide_eq_true (by first | (with_reducible assumption) | assumption)
                      have q160 : x5_1 < (x160000_2.length : Int) := of_decide_eq_true (by first | (with_reducible assumption) | assumption)
                      obtain ⟨ad160, e160, hx160_0⟩ := Kd.at_string (Kd.R_reads' HO_160000.out).2.2 x5_1 p160 q160
                      cases e160
                      replace p160 := eq_true p160
                      replace q160 := eq_true q160
                      refine start_ (n := 12) (S := fun w' => w'.cell? ⟨gb159, 0, none⟩ = some (.slice (some ad160) x160000_2.length co44) ∧ w'.cell? ⟨gb159, 1, none⟩ = some (u160001) ∧ w'.cell? ⟨gb159, 2, none⟩ = some (.slice none 0 0) ∧ w'.cell? (ad160.add (x5_1).toNat) = some (.string (rdOf ByteArray.empty x160000_2 x5_1))) (ds := []) #[false, false, false, false, false, false, false, false, false, false, false, false] (by kernel_rfl) rfl rfl ⟨(blk_cell BK159.out 0).trans rfl, (blk_cell BK159.out 1).trans rfl, (blk_cell BK159.out 2).trans rfl, hx160_0⟩ (fun hHeld => ?_); refine with_tabW spec_l05All.tab8 spec_l05All.bits8 (fun HT_ HW_ => ?_)
                      generalize wr.drew = w43 at HO_160000 HO_160001 BK159 HI0 HK HB hx160_0 hHeld ⊢
                      refine pure_ (i := 0) (N := some 29) (v := ?_) (a' := ?_) #[true, false, false, false, false, false, false, false, false, false, false, false] rfl rfl (any_of HT_.out (by kernel_rfl)) (fun _ _ _ h => h) (Or.inl ⟨by rfl, ?_⟩) ?_ ?_
                      rotate_left
                      · intro w'
                        go_simp
                        with_reducible rfl
                      rotate_left
                      · simp only [Act.put, List.setIfInBounds_toArray, List.set_cons_zero, List.set_cons_succ, i64_w, i32_w]
                        rfl
                      refine pure_ (i := 1) (N := some 30) (v := ?_) (a' := ?_) #[true, true, false, false, false, false, false, false, false, false, false, false] rfl rfl (any_of HT_.out (by kernel_rfl)) (fun _ _ _ h => h) (Or.inl ⟨by rfl, ?_⟩) ?_ ?_
                      rotate_left
                      · intro w'
                        go_simp
                        with_reducible rfl
                      rotate_left
                      · simp only [Act.put, List.setIfInBounds_toArray, List.set_cons_zero, List.set_cons_succ, i64_w, i32_w]
                        rfl
                      refine pure_ (i := 2) (N := some 31) (v := ?_) (a' := ?_) #[true, true, true, false, false, false, false, false, false, false, false, false] rfl rfl (any_of HT_.out (by kernel_rfl)) (fun _ _ _ h => h) (Or.inl ⟨by rfl, ?_⟩) ?_ ?_
                      rotate_left
                      · intro w'
                        go_simp
                        with_reducible rfl
                      rotate_left
                      · simp only [Act.put, List.setIfInBounds_toArray, List.set_cons_zero, List.set_cons_succ, i64_w, i32_w]
                        rfl
                      refine pure_ (i := 4) (N := some 33) (v := ?_) (a' := ?_) #[true, true, true, false, true, false, false, false, false, false, false, false] rfl rfl (any_of HT_.out (by kernel_rfl)) (fun _ _ _ h => h) (Or.inl ⟨by rfl, ?_⟩) ?_ ?_
                      rotate_left
                      · intro w'
                        go_simp
                        with_reducible rfl
                      rotate_left
                      · simp only [Act.put, List.setIfInBounds_toArray, List.set_cons_zero, List.set_cons_succ, i64_w, i32_w]
                        rfl
                      refine pure_ (i := 7) (N := some 36) (v := ?_) (a' := ?_) #[true, true, true, false, true, false, false, true, false, false, false, false] rfl rfl (any_of HT_.out (by kernel_rfl)) (fun _ _ _ h => h) (Or.inl ⟨by rfl, ?_⟩) ?_ ?_
                      rotate_left
                      · intro w'
                        go_simp
                        with_reducible rfl
                      rotate_left
                      · simp only [Act.put, List.setIfInBounds_toArray, List.set_cons_zero, List.set_cons_succ, i64_w, i32_w]
                        rfl
                      refine take_ (i := 3) (N := some 32) (v := ?_) (a' := ?_) #[true, true, true, true, true, false, false, true, false, false, false, false] rfl rfl (take_ofW HT_.out HW_.out (by kernel_rfl)) (fun _ _ _ h => h) (Or.inl ⟨by rfl, ?_⟩) hHeld ?_ ?_
                      rotate_left
                      · rintro w' ⟨s0, s1, s2, s3⟩
                        go_simp
                        with_reducible rfl
                      rotate_left
                      · simp only [Act.put, List.setIfInBounds_toArray, List.set_cons_zero, List.set_cons_succ, i64_w, i32_w]
                        rfl
                      refine pure_ (i := 5) (N := some 34) (v := ?_) (a' := ?_) #[true, true, true, true, true, true, false, true, false, false, false, false] rfl rfl (any_of HT_.out (by kernel_rfl)) (fun _ _ _ h => h) (Or.inl ⟨by rfl, ?_⟩) ?_ ?_
                      rotate_left
                      · intro w'
                        go_simp
                        with_reducible rfl
                      rotate_left
                      · simp only [Act.put, List.setIfInBounds_toArray, List.set_cons_zero, List.set_cons_succ, i64_w, i32_w]
                        rfl
                      refine take_ (i := 6) (N := some 35) (v := ?_) (a' := ?_) #[true, true, true, true, true, true, true, true, false, false, false, false] rfl rfl (take_ofW HT_.out HW_.out (by kernel_rfl)) (fun _ _ _ h => h) (Or.inl ⟨by rfl, ?_⟩) hHeld ?_ ?_
                      rotate_left
                      · rintro w' ⟨s0, s1, s2, s3⟩
                        go_simp
                        with_reducible rfl
                      rotate_left
                      · simp only [Act.put, List.setIfInBounds_toArray, List.set_cons_zero, List.set_cons_succ, i64_w, i32_w]
                        rfl
                      refine one_ (i := 8) (N := some 37) #[true, true, true, true, true, true, true, true, true, false, false, false] rfl rfl (one_of HT_.out (by kernel_rfl)) (by decide) (fun K hK => ?_)
                      refine Kd.R_lit_step (Kd.int .u8) _ 5 ?hg (N := 37) ?hd (xs := ([x6_2] : List Int)) (inner := [.int .u8 x6_2]) (ok := fun _ => True) (okp := fun _ => True) ?hr ?hp (fun _ hk => hk) trivial (Below.refl _ _) (Nat.le_refl _) (by simp) ?_; (case hd => rfl); (case hg => rfl); (case hr => first | (go_simp; done) | (go_simp; rfl)); (case hp => exact (Reps.one (show Kd.M (Kd.int .u8) _ _ _ x6_2 [.int .u8 x6_2] from rfl) (Reps.none _ _)))
                      intro v162 w45 ho46 hb hg_ hnew_
                      have HS3_ := (hb.cell (World.block_lt_of_cell? _ _ (hHeld.2.2.2))).trans (hHeld.2.2.2)
                      clear hg_ hnew_
                      (first | rw [← Ny161.out] at ho46 | (simp only [Int.reduceToNat] at ho46; rw [← Ny161.out] at ho46))
                      have n0_ := Aside0.mk (Kd.R_below (by (with_reducible repeat (first | apply Kd.R_alloc | apply Kd.R_drewN | apply Kd.R_drew)); exact HO_160000.out) hb)
                      have n1_ := Aside0.mk (Kd.N_elder' (by (with_reducible repeat (first | apply Kd.N_alloc | apply Kd.N_drewN | apply Kd.N_drew)); exact HO_160001.out) (Kd.R_base ho46) hb)
                      have n2_ := Aside0.mk (Kd.R_lower (Kd.R_newM (M := fun k_ => (w.heap.size ≤ k_)) ho46 (keep_size (w := w) (g := g) (row := none) (by repeat (first | (with_reducible first | exact HK.out | apply KeepBut.set_ | apply keep_drewN | apply keep_drew | apply keep_alloc | refine keep_far ?_ GW159.out _) | exact HK.out))) (fun k_ h_ => h_)) (keep_size (w := w) (g := g) (row := none) (by repeat (first | (with_reducible first | exact HK.out | apply KeepBut.set_ | apply keep_drewN | apply keep_drew | apply keep_alloc | refine keep_far ?_ GW159.out _) | exact HK.out))))
                      have n3_ := Aside0.mk (blk_below (g := gb159) (o := .cells #[.slice (some ad160) x160000_2.length co44, u160001, .slice none 0 0] 62 (0, 0)) (by (with_reducible repeat (first | refine blk_drewN ?_ _ | refine blk_drew ?_ | refine blk_alloc ?_ _)); exact BK159.out) hb)
                      have n4_ := Aside0.mk (IsS27.below (by repeat (first | (with_reducible first | exact HI0.out | apply IsS27.alloc | apply IsS27.drewN | apply IsS27.drew | apply IsS27.set_0 | refine IsS27.far ?_ NB0_159.out _) | exact HI0.out)) hb)
                      have n5_ := Aside0.mk (KeepBut.trans (by repeat (first | (with_reducible first | exact HK.out | apply KeepBut.set_ | apply keep_drewN | apply keep_drew | apply keep_alloc | refine keep_far ?_ GW159.out _) | exact HK.out)) (KeepBut.of_below hb g none) (.inl rfl))
                      have n6_ := Aside0.mk (below_step (by repeat (first | (with_reducible first | exact HB.out | apply below_alloc | apply pw_below_drewN | apply below_drew1 | refine below_set ?_ (IsS27.ge HI0.out) | refine below_set ?_ GE159.out) | exact HB.out)) hb)
                      clear HO_160000
                      clear HO_160001
                      clear BK159
                      clear HI0
                      clear HK
                      clear HB
                      have HO_160000 := n0_
                      have HO_160001 := n1_
                      have HO163 := n2_
                      have BK159 := n3_
                      have HI0 := n4_
                      have HK := n5_
                      have HB := n6_
                      clear n0_ n1_ n2_ n3_ n4_ n5_ n6_
                      clear hb ho46
                      refine hK.out _ _ ⟨(blk_cell BK159.out 0).trans rfl, (blk_cell BK159.out 1).trans rfl, (blk_cell BK159.out 2).trans rfl, HS3_⟩ (fun hHeld => ?_)
                      clear hK K
                      refine norm_ (a' := ?_) ?_ ?_
                      rotate_left
                      · show Act.put _ (some 37) _ = _
                        simp only [Act.put, List.setIfInBounds_toArray, List.set_cons_zero, List.set_cons_succ, i64_w, i32_w]
                        rfl
                      refine one_ (i := 9) (N := some 38) #[true, true, true, true, true, true, true, true, true, true, false, false] rfl rfl (one_of HT_.out (by kernel_rfl)) (by decide) (fun K hK => ?_)
                      have hcv47 := own_string (P := Try.prog) Try.underlying57 Try.underlying5 Try.underlying9 (Kd.own_of_R HO163.out)
                      refine value_ (w1 := ?_) (v := ?_) (by rfl) rfl ?_ ?_
                      rotate_left 2
                      · go_simp
                        constructor
                        · rfl
                        · rfl
                      clear hcv47
                      refine hK.out _ _ ⟨(blk_cell BK159.out 0).trans rfl, (blk_cell BK159.out 1).trans rfl, (blk_cell BK159.out 2).trans rfl, hHeld.2.2.2⟩ (fun hHeld => ?_)
                      clear hK K
                      refine norm_ (a' := ?_) ?_ ?_
                      rotate_left
                      · show Act.put _ (some 38) _ = _
                        simp only [Act.put, List.setIfInBounds_toArray, List.set_cons_zero, List.set_cons_succ, i64_w, i32_w]
                        rfl
                      refine pure_ (i := 10) (N := some 39) (v := ?_) (a' := ?_) #[true, true, true, true, true, true, true, true, true, true, true, false] rfl rfl (any_of HT_.out (by kernel_rfl)) (fun _ _ _ h => h) (Or.inl ⟨by rfl, ?_⟩) ?_ ?_
                      rotate_left
                      · intro w'
                        go_simp
                        with_reducible rfl
                      rotate_left
                      · simp only [Act.put, List.setIfInBounds_toArray, List.set_cons_zero, List.set_cons_succ, i64_w, i32_w]
                        rfl
                      refine pure_ (i := 11) (N := some 7) (v := ?_) (a' := ?_) #[true, true, true, true, true, true, true, true, true, true, true, true] rfl rfl (any_of HT_.out (by kernel_rfl)) (fun _ _ _ h => h) (Or.inl ⟨by rfl, ?_⟩) ?_ ?_
                      rotate_left
                      · intro w'
                        go_simp
                        with_reducible rfl
                      rotate_left
                      · simp only [Act.put, List.setIfInBounds_toArray, List.set_cons_zero, List.set_cons_succ, i64_w, i32_w]
                        rfl
                      refine done_ (done_of HT_.out (by kernel_rfl)) ?_
                      try go_wp2_with (first | ((with_reducible refine gate_callee (f := 57) rfl ?_); refine goesL_ (some 42) rfl rfl Try.func57 (by kernel_rfl) rfl #[.pointer (some ⟨g, 0, none⟩), .string ((rdOf ByteArray.empty x160000_2 x5_1) ++ (strOfNums y161))] rfl (by (try simp only [List.map_toArray, List.map_cons, List.map_nil]); first | done | rfl | (simp only [List.length_drop, List.length_take]; rfl)) ?_; (with_reducible refine (spec_l05Map.calls k2 g x1000_2 s0_1 s0_2 ((rdOf ByteArray.empty x160000_2 x5_1) ++ (strOfNums y161)) t164 t167 w0 _ ?side1 ?side2 A20.out).mono ?_); (case side1 => repeat (first | (with_reducible first | exact HI0.out | apply IsS27.alloc | apply IsS27.drewN | apply IsS27.drew | apply IsS27.set_0 | refine IsS27.far ?_ NB0_159.out _) | exact HI0.out)); (case side2 => repeat (first | (with_reducible first | exact HB.out | apply below_alloc | apply pw_below_drewN | apply below_drew1 | refine below_set ?_ (IsS27.ge HI0.out) | refine below_set ?_ GE159.out) | exact HB.out)); rintro e w48 ⟨v165, rfl, ho0, hi, hb, hk⟩; refine ⟨_, rfl, ?_⟩; have n0_ := Aside0.mk (Kd.R_mono (Kd.R_keep (IsS27.apart (show IsS27 w0 _ g x1000_2 s0_1 s0_2 from by repeat (first | (with_reducible first | exact HI0.out | apply IsS27.alloc | apply IsS27.drewN | apply IsS27.drew | apply IsS27.set_0 | refine IsS27.far ?_ NB0_159.out _) | exact HI0.out)) (by (with_reducible repeat (first | apply Kd.R_alloc | apply Kd.R_drewN | apply Kd.R_drew)); exact HO_160000.out) (by decide)) hk (fun _ h => h.2)) (fun _ h => h.1)); have n1_ := Aside0.mk (Kd.N_mono (Kd.N_told (Kd.N_oldK (Kd.N_mono (ok := fun k_ => ((((w.heap.size ≤ k_)) ∧ (some k_ ≠ (.slice (some ad160) x160000_2.length co44 : Value).ownBlock ∧ (k_ ≠ gb159 ∧ k_ ≠ g))) ∧ some k_ ≠ (v162 : Value).ownBlock)) (by (with_reducible repeat (first | apply Kd.N_alloc | apply Kd.N_drewN | apply Kd.N_drew)); exact HO_160001.out) (fun k_ hk_ => (⟨hk_, hk_.1.2.2.2⟩ : _ ∧ k_ ≠ g))) hk) (Kd.R_base ho0)) (fun _ h_ => h_.1)); have n2_ := Aside0.mk (KeepBut.blk hk (g' := gb159) (o := .cells #[.slice (some ad160) x160000_2.length co44, u160001, .slice none 0 0] 62 (0, 0)) (by (with_reducible repeat (first | refine blk_drewN ?_ _ | refine blk_drew ?_ | refine blk_alloc ?_ _)); exact BK159.out) NB159_0.out (by simp)); have n3_ := Aside0.mk (Kd.R_mono (Kd.R_keep (IsS27.apart (show IsS27 w0 _ g x1000_2 s0_1 s0_2 from by repeat (first | (with_reducible first | exact HI0.out | apply IsS27.alloc | apply IsS27.drewN | apply IsS27.drew | apply IsS27.set_0 | refine IsS27.far ?_ NB0_159.out _) | exact HI0.out)) (by (with_reducible repeat (first | apply Kd.R_alloc | apply Kd.R_drewN | apply Kd.R_drew)); exact HO163.out) (by decide)) hk (fun _ h => h.2)) (fun _ h => h.1)); have n4_ := Aside0.mk (Kd.R_lower (Kd.R_newM (M := fun k_ => (w.heap.size ≤ k_)) ho0 (keep_size (w := w) (g := g) (row := none) (by repeat (first | (with_reducible first | exact HK.out | apply KeepBut.set_ | apply keep_drewN | apply keep_drew | apply keep_alloc | refine keep_far ?_ GW159.out _) | exact HK.out))) (fun k_ h_ => h_)) (keep_size (w := w) (g := g) (row := none) (by repeat (first | (with_reducible first | exact HK.out | apply KeepBut.set_ | apply keep_drewN | apply keep_drew | apply keep_alloc | refine keep_far ?_ GW159.out _) | exact HK.out)))); have n5_ := Aside0.mk (KeepBut.trans (by repeat (first | (with_reducible first | exact HK.out | apply KeepBut.set_ | apply keep_drewN | apply keep_drew | apply keep_alloc | refine keep_far ?_ GW159.out _) | exact HK.out)) hk (.inl rfl)); have n6_ := Aside0.mk (hb); have n7_ := Aside0.mk (hi); clear HO_160000; clear HO_160001; clear BK159; clear HO163; clear HK; clear HB; clear HI0; have HO_160000 := n0_; have HO_160001 := n1_; have BK159 := n2_; have HO163 := n3_; have HO166 := n4_; have HK := n5_; have HB := n6_; have HI0 := n7_; clear n0_ n1_ n2_ n3_ n4_ n5_ n6_ n7_; (try clear hb); (try clear hb2); (try clear hk); (try clear hi); (try clear ho0); obtain ⟨Ao49, co49, eo49⟩ := Kd.N_slice HO_160001.out; subst eo49; obtain ⟨Ao50, co50, eo50⟩ := Kd.R_slice HO166.out; subst eo50) | ((with_reducible refine gate_callee (f := 58) rfl ?_); refine goesL_ (some 45) rfl rfl Try.func58 (by kernel_rfl) rfl #[.pointer (some ⟨gb159, 0, none⟩), .slice Ao50 t164.length co50] rfl (by (try simp only [List.map_toArray, List.map_cons, List.map_nil]); first | done | rfl | (simp only [List.length_drop, List.length_take]; rfl)) ?_; (with_reducible refine (spec_l05Maps_find.calls k2 Ao49 co49 x160001_2 _ _ t164 t168 _ gb159 ?hm0 ?side1 ?side2 ?side3 ?side4 A21.out).mono ?_); (case hm0 => exact (blk_cell (by (with_reducible repeat (first | refine blk_drewN ?_ _ | refine blk_drew ?_ | refine blk_alloc ?_ _)); exact BK159.out) 1).trans rfl); (case side1 => repeat (first | exact (Kd.N_reads' HO_160001.out).2.2 | (with_reducible refine Kd.C_alloc ?_ _) | (with_reducible refine Kd.C_drewN ?_ _) | (with_reducible refine Kd.C_drew ?_))); (case side2 => exact (Kd.N_reads' HO_160001.out).2.1); (case side3 => repeat (first | exact (Kd.R_reads' HO166.out).2.2 | (with_reducible refine Kd.C_alloc ?_ _) | (with_reducible refine Kd.C_drewN ?_ _) | (with_reducible refine Kd.C_drew ?_))); (case side4 => exact (Kd.R_reads' HO166.out).2.1); rintro e w' ⟨rfl, ⟨nd, rfl⟩⟩; refine ⟨_, rfl, ?_⟩))
                      go_roundg k2
                      case measure => have := HK1.out; have := HK2.out; omega
                      case rel => exact ⟨((x6_2 + 1) % 256), (t167), (x160000_2), (x160001_2), (.slice (some ad160) x160000_2.length co44), (.slice Ao49 x160001_2.length co49), (by first | rfl | (simp; done) | (simp [*]; done)), H', ⟨by have := HK1.out; have := HK2.out; omega⟩, ⟨by (with_reducible repeat (first | apply Kd.R_alloc | apply Kd.R_drewN | apply Kd.R_drew)); exact HO_160000.out⟩, ⟨by (with_reducible repeat (first | apply Kd.N_alloc | apply Kd.N_drewN | apply Kd.N_drew)); exact Kd.N_mono HO_160001.out (fun _ hk => by first | exact ⟨hk.1.1.1, ⟨hk.1.1.2.1, ⟨hk.1.1.2.2.1, hk.1.1.2.2.2⟩⟩⟩ | ((try simp only [and_assoc] at hk ⊢); first | (obtain ⟨h0_, h1_, h2_, h3_, h4_, h5_, h6_, h7_, h8_⟩ := hk; repeat' (first | assumption | refine ⟨?_, ?_⟩)) | (obtain ⟨h0_, h1_, h2_, h3_, h4_, h5_, h6_, h7_⟩ := hk; repeat' (first | assumption | refine ⟨?_, ?_⟩)) | (obtain ⟨h0_, h1_, h2_, h3_, h4_, h5_, h6_⟩ := hk; repeat' (first | assumption | refine ⟨?_, ?_⟩)) | (obtain ⟨h0_, h1_, h2_, h3_, h4_, h5_⟩ := hk; repeat' (first | assumption | refine ⟨?_, ?_⟩)) | (obtain ⟨h0_, h1_, h2_, h3_, h4_⟩ := hk; repeat' (first | assumption | refine ⟨?_, ?_⟩)) | (obtain ⟨h0_, h1_, h2_, h3_⟩ := hk; repeat' (first | assumption | refine ⟨?_, ?_⟩)) | (obtain ⟨h0_, h1_, h2_⟩ := hk; repeat' (first | assumption | refine ⟨?_, ?_⟩)) | (obtain ⟨h0_, h1_⟩ := hk; repeat' (first | assumption | refine ⟨?_, ?_⟩))))⟩, ⟨by (with_reducible repeat (first | refine blk_drewN ?_ _ | refine blk_drew ?_ | refine blk_alloc ?_ _)); exact BK159.out⟩, ⟨by repeat (first | (with_reducible first | exact HI0.out | apply IsS27.alloc | apply IsS27.drewN | apply IsS27.drew | apply IsS27.set_0 | refine IsS27.far ?_ NB0_159.out _) | exact HI0.out)⟩, ⟨by repeat (first | (with_reducible first | exact HK.out | apply KeepBut.set_ | apply keep_drewN | apply keep_drew | apply keep_alloc | refine keep_far ?_ GW159.out _) | exact HK.out)⟩, ⟨by repeat (first | (with_reducible first | exact HB.out | apply below_alloc | apply pw_below_drewN | apply below_drew1 | refine below_set ?_ (IsS27.ge HI0.out) | refine below_set ?_ GE159.out) | exact HB.out)⟩⟩
                  · rw [if_neg c19] at H
                    exact absurd H (by simp)
                · rw [if_neg c18] at H
                  exact absurd H (by simp)
              · rw [if_neg c17] at H
                exact absurd H (by simp)
            · rw [if_neg c16] at H
              have c16b0 : decide (x6_2 ≤ 100) = false := decide_eq_false c16
              clear c16
              by_cases c51 : (x160000_2.length : Int) > 40
              · rw [if_pos c51] at H
                have c51b0 : decide (40 < (x160000_2.length : Int)) = true := decide_eq_true c51
                have c51b1 : decide (40 < x160000_2.length) = true := decide_eq_true (by omega)
                clear c51
                simp only [Option.some.injEq, Prod.mk.injEq] at H
                obtain ⟨rfl, rfl, rfl, rfl⟩ := H
                have hnb52 := NB159_0.out
                have hnc52 := NB0_159.out
                have hcz53_0 : wr.cell? ⟨gb159, 0, none⟩ = some (u160000) := (blk_cell BK159.out 0).trans rfl
                have hcz53_1 : wr.cell? ⟨gb159, 1, none⟩ = some (u160001) := (blk_cell BK159.out 1).trans rfl
                have hcz53_2 : wr.cell? ⟨gb159, 2, none⟩ = some (.slice none 0 0) := (blk_cell BK159.out 2).trans rfl
                have hfz53_0 := blk_frozen BK159.out 0
                have hfz53_1 := blk_frozen BK159.out 1
                have hfz53_2 := blk_frozen BK159.out 2
                obtain ⟨Ao54, co54, eo54⟩ := Kd.R_slice HO_160000.out
                subst eo54
                go_wp2
                go_ret2
                exact ⟨gb159, _, _, _, by first | rfl | (simp [errW_none, errW_some] <;> rfl) | (simp [*, errW_none, errW_some] <;> rfl), (by (with_reducible repeat (first | refine blk_drewN ?_ _ | refine blk_drew ?_ | refine blk_alloc ?_ _)); exact BK159.out), GW159.out, by (with_reducible repeat (first | apply Kd.R_alloc | apply Kd.R_drewN | apply Kd.R_drew)); exact HO_160000.out, by (with_reducible repeat (first | apply Kd.N_alloc | apply Kd.N_drewN | apply Kd.N_drew)); exact Kd.N_mono HO_160001.out (fun _ hk => by first | exact ⟨hk.1, hk.2.1⟩ | ((try simp only [and_assoc] at hk ⊢); first | (obtain ⟨h0_, h1_, h2_, h3_, h4_, h5_, h6_, h7_, h8_⟩ := hk; repeat' (first | assumption | refine ⟨?_, ?_⟩)) | (obtain ⟨h0_, h1_, h2_, h3_, h4_, h5_, h6_, h7_⟩ := hk; repeat' (first | assumption | refine ⟨?_, ?_⟩)) | (obtain ⟨h0_, h1_, h2_, h3_, h4_, h5_, h6_⟩ := hk; repeat' (first | assumption | refine ⟨?_, ?_⟩)) | (obtain ⟨h0_, h1_, h2_, h3_, h4_, h5_⟩ := hk; repeat' (first | assumption | refine ⟨?_, ?_⟩)) | (obtain ⟨h0_, h1_, h2_, h3_, h4_⟩ := hk; repeat' (first | assumption | refine ⟨?_, ?_⟩)) | (obtain ⟨h0_, h1_, h2_, h3_⟩ := hk; repeat' (first | assumption | refine ⟨?_, ?_⟩)) | (obtain ⟨h0_, h1_, h2_⟩ := hk; repeat' (first | assumption | refine ⟨?_, ?_⟩)) | (obtain ⟨h0_, h1_⟩ := hk; repeat' (first | assumption | refine ⟨?_, ?_⟩)))), by repeat (first | (with_reducible first | exact HI0.out | apply IsS27.alloc | apply IsS27.drewN | apply IsS27.drew | apply IsS27.set_0 | refine IsS27.far ?_ NB0_159.out _) | exact HI0.out), by repeat (first | (with_reducible first | exact HB.out | apply below_alloc | apply pw_below_drewN | apply below_drew1 | refine below_set ?_ (IsS27.ge HI0.out) | refine below_set ?_ GE159.out) | exact HB.out), by repeat (first | (with_reducible first | exact HK.out | apply KeepBut.set_ | apply keep_drewN | apply keep_drew | apply keep_alloc | refine keep_far ?_ GW159.out _) | exact HK.out)⟩
              · rw [if_neg c51] at H
                have c51b0 : decide (40 < (x160000_2.length : Int)) = false := decide_eq_false c51
                have c51b1 : decide (40 < x160000_2.length) = false := decide_eq_false (by omega)
                clear c51
                have H' := Aside0.mk H
                clear H
                have hnb55 := NB159_0.out
                have hnc55 := NB0_159.out
                have hcz56_0 : wr.cell? ⟨gb159, 0, none⟩ = some (u160000) := (blk_cell BK159.out 0).trans rfl
                have hcz56_1 : wr.cell? ⟨gb159, 1, none⟩ = some (u160001) := (blk_cell BK159.out 1).trans rfl
                have hcz56_2 : wr.cell? ⟨gb159, 2, none⟩ = some (.slice none 0 0) := (blk_cell BK159.out 2).trans rfl
                have hfz56_0 := blk_frozen BK159.out 0
                have hfz56_1 := blk_frozen BK159.out 1
                have hfz56_2 := blk_frozen BK159.out 2
                obtain ⟨Ao57, co57, eo57⟩ := Kd.R_slice HO_160000.out
                subst eo57
                go_wp2
                go_roundg k2
                case measure => have := HK1.out; have := HK2.out; omega
                case rel => exact ⟨(wrap64 (x5_1 + 1)), (x1000_2), (x160000_2), (x160001_2), (.slice Ao57 x160000_2.length co57), (u160001), (by first | rfl | (simp; done) | (simp [*]; done)), H', ⟨by have := HK1.out; have := HK2.out; omega⟩, ⟨by (with_reducible repeat (first | apply Kd.R_alloc | apply Kd.R_drewN | apply Kd.R_drew)); exact HO_160000.out⟩, ⟨by (with_reducible repeat (first | apply Kd.N_alloc | apply Kd.N_drewN | apply Kd.N_drew)); exact HO_160001.out⟩, ⟨by (with_reducible repeat (first | refine blk_drewN ?_ _ | refine blk_drew ?_ | refine blk_alloc ?_ _)); exact BK159.out⟩, ⟨by repeat (first | (with_reducible first | exact HI0.out | apply IsS27.alloc | apply IsS27.drewN | apply IsS27.drew | apply IsS27.set_0 | refine IsS27.far ?_ NB0_159.out _) | exact HI0.out)⟩, ⟨by repeat (first | (with_reducible first | exact HK.out | apply KeepBut.set_ | apply keep_drewN | apply keep_drew | apply keep_alloc | refine keep_far ?_ GW159.out _) | exact HK.out)⟩, ⟨by repeat (first | (with_reducible first | exact HB.out | apply below_alloc | apply pw_below_drewN | apply below_drew1 | refine below_set ?_ (IsS27.ge HI0.out) | refine below_set ?_ GE159.out) | exact HB.out)⟩⟩
      · rw [if_neg c12] at H
        have c12b0 : decide (x5_1 < (x160000_1.length : Int)) = false := decide_eq_false c12
        clear c12
        have H' := Aside0.mk H
        clear H
        have hnb58 := NB159_0.out
        have hnc58 := NB0_159.out
        have hcz59_0 : wr.cell? ⟨gb159, 0, none⟩ = some (u160000) := (blk_cell BK159.out 0).trans rfl
        have hcz59_1 : wr.cell? ⟨gb159, 1, none⟩ = some (u160001) := (blk_cell BK159.out 1).trans rfl
        have hcz59_2 : wr.cell? ⟨gb159, 2, none⟩ = some (.slice none 0 0) := (blk_cell BK159.out 2).trans rfl
        have hfz59_0 := blk_frozen BK159.out 0
        have hfz59_1 := blk_frozen BK159.out 1
        have hfz59_2 := blk_frozen BK159.out 2
        obtain ⟨Ao60, co60, eo60⟩ := Kd.R_slice HO_160000.out
        subst eo60
        go_wp2
        go_loopg [9] k1 (fun kq v9 w' => ∃ (x9_2 : Int) (x1000_2 : Int) (x160002_2 : List Int) (u160002 : Value), v9 = .int .u8 x9_2 ∧ Aside0 (spec_l05All.l2 kq x9_2 x1000_2 s0_1 s0_2 x160000_1 x160001_1 x160002_2 = some (r1, r2, r3, r4)) ∧ Aside0 (kq ≤ k1) ∧ Aside0 (Kd.R Kd.string 9 w' w.heap.size (fun k_ => (w.heap.size ≤ k_)) (.slice Ao60 x160000_1.length co60) x160000_1) ∧ Aside0 (Kd.N (Kd.slice 2 (Kd.int .i64)) 48 w' w.heap.size (fun k_ => (w.heap.size ≤ k_) ∧ some k_ ≠ ((.slice Ao60 x160000_1.length co60) : Value).ownBlock ∧ some k_ ≠ (u160002 : Value).ownBlock ∧ k_ ≠ gb159 ∧ k_ ≠ g) u160001 x160001_1) ∧ Aside0 (Kd.R (Kd.int .i64) 2 w' w.heap.size (fun k_ => (w.heap.size ≤ k_)) u160002 x160002_2) ∧ Aside0 (w'.heap[gb159]? = some (.cells #[(.slice Ao60 x160000_1.length co60), u160001, u160002] 62 (0, 0))) ∧ Aside0 (IsS27 w0 w' g x1000_2 s0_1 s0_2) ∧ Aside0 (KeepBut w w' g none) ∧ Aside0 (Below w0.heap.size w0 w'))
        case atStart => exact ⟨(97), (x1000_1), (([] : List Int)), (.slice none 0 0), (by first | rfl | (simp; done) | (simp [*]; done)), H', ⟨Nat.le_refl _⟩, ⟨by (with_reducible repeat (first | apply Kd.R_alloc | apply Kd.R_drewN | apply Kd.R_drew)); exact HO_160000.out⟩, ⟨by (with_reducible repeat (first | apply Kd.N_alloc | apply Kd.N_drewN | apply Kd.N_drew)); exact Kd.N_mono HO_160001.out (fun _ hk => ⟨hk.1, ⟨hk.2.1, ⟨(by simp [Value.ownBlock]), ⟨hk.2.2.1, hk.2.2.2⟩⟩⟩⟩)⟩, ⟨by first | exact Kd.R_nil _ _ _ _ _ | exact Kd.N_nil _ _ _ _ _ | exact Kd.V_nil _ _ _ _ _ | exact Kd.Q_nil _ _ _ _ _ | exact Kd.S_nil _ _ _ _ _⟩, ⟨by (with_reducible repeat (first | refine blk_drewN ?_ _ | refine blk_drew ?_ | refine blk_alloc ?_ _)); exact BK159.out⟩, ⟨by repeat (first | (with_reducible first | exact HI0.out | apply IsS27.alloc | apply IsS27.drewN | apply IsS27.drew | apply IsS27.set_0 | refine IsS27.far ?_ NB0_159.out _) | exact HI0.out)⟩, ⟨by repeat (first | (with_reducible first | exact HK.out | apply KeepBut.set_ | apply keep_drewN | apply keep_drew | apply keep_alloc | refine keep_far ?_ GW159.out _) | exact HK.out)⟩, ⟨by repeat (first | (with_reducible first | exact HB.out | apply below_alloc | apply pw_below_drewN | apply below_drew1 | refine below_set ?_ (IsS27.ge HI0.out) | refine below_set ?_ GE159.out) | exact HB.out)⟩⟩
        case round =>
          clear H'
          try clear c1
          try clear p1
          try clear q1
          try clear hx1
          try clear c2
          try clear p2
          try clear hcv2
          try clear c3
          try clear c4
          try clear hcv4
          try clear c5
          try clear p6
          try clear c12
          try clear c12b0
          try clear c13
          try clear c16
          try clear c16b0
          try clear p16
          try clear q16
          try clear hx16
          try clear c17
          try clear c17b0
          try clear c18
          try clear c18b0
          try clear c19
          try clear c19b0
          try clear c19b1
          try clear c19b2
          try clear c22
          try clear c22b0
          try clear c23
          try clear c24
          try clear hcv29
          try clear c33
          try clear c43
          try clear hcv47
          try clear c51
          try clear c51b0
          try clear c51b1
          try clear c52
          try clear c55
          try clear c57
          try clear c58
          try clear hcz14_0
          try clear hcz14_1
          try clear hcz14_2
          try clear hcz34_0
          try clear hcz34_1
          try clear hcz34_2
          try clear hcz37_0
          try clear hcz37_1
          try clear hcz37_2
          try clear hcz39_0
          try clear hcz39_1
          try clear hcz39_2
          try clear hcz42_0
          try clear hcz42_1
          try clear hcz42_2
          try clear hcz53_0
          try clear hcz53_1
          try clear hcz53_2
          try clear hcz56_0
          try clear hcz56_1
          try clear hcz56_2
          try clear hcz59_0
          try clear hcz59_1
          try clear hcz59_2
          try clear hfz14_0
          try clear hfz14_1
          try clear hfz14_2
          try clear hfz34_0
          try clear hfz34_1
          try clear hfz34_2
          try clear hfz37_0
          try clear hfz37_1
          try clear hfz37_2
          try clear hfz39_0
          try clear hfz39_1
          try clear hfz39_2
          try clear hfz42_0
          try clear hfz42_1
          try clear hfz42_2
          try clear hfz53_0
          try clear hfz53_1
          try clear hfz53_2
          try clear hfz56_0
          try clear hfz56_1
          try clear hfz56_2
          try clear hfz59_0
          try clear hfz59_1
          try clear hfz59_2
          try clear hx160_0
          try clear p160
          try clear p2
          try clear q160
          obtain ⟨x9_2, x1000_2, x160002_2, u160002, rfl, HA, HK2, HO_160000, HO_160001, HO_160002, BK159, HI0, HK, HB⟩ := hrel
          cases gk with
          | zero => exact absurd HA.out (by simp [spec_l05All.l2])
          | succ k2 =>
            have H := HA.out
            clear HA
            simp only [spec_l05All.l2] at H
            by_cases c61 : x9_2 ≤ 100
            · rw [if_pos c61] at H
              have c61b0 : decide (x9_2 ≤ 100) = true := decide_eq_true c61
              clear c61
              obtain ⟨y175, hy175⟩ : ∃ y_ : List Int, y_ = (([x9_2] : List Int)) := ⟨_, rfl⟩
              replace H : ((spec_l05Map.f k2 x1000_2 s0_1 s0_2 (strOfNums y175)).bind fun bt178 => ((spec_l05Maps_find.f k2 x160001_1 bt178.1).bind fun t182 => (if x160002_2.length < 17592186044416 then (spec_l05All.l2 k2 ((x9_2 + 1) % 256) bt178.2 s0_1 s0_2 x160000_1 x160001_1 (x160002_2 ++ [t182])) else (none)))) = some (r1, r2, r3, r4) := by first | (rw [hy175]; with_reducible exact H) | (have H2_ := (Option.bind_some _ _).symm.trans H; rw [hy175]; with_reducible exact H2_) | (have H2_ := (Option.bind_some _ _).symm.trans H; with_reducible exact H2_) | with_reducible exact H | (rw [hy175]; exact H) | exact H
              have Ny175 := Aside0.mk hy175
              clear hy175
              replace H := Option.bind_eq_some_iff.mp H
              obtain ⟨⟨t178, t181⟩, A620, H⟩ := H
              replace H : ((spec_l05Maps_find.f k2 x160001_1 t178).bind fun t182 => (if x160002_2.length < 17592186044416 then (spec_l05All.l2 k2 ((x9_2 + 1) % 256) t181 s0_1 s0_2 x160000_1 x160001_1 (x160002_2 ++ [t182])) else (none))) = some (r1, r2, r3, r4) := H
              have A62 := Aside0.mk A620
              clear A620
              replace H := Option.bind_eq_some_iff.mp H
              obtain ⟨t182, A630, H⟩ := H
              replace H : (if x160002_2.length < 17592186044416 then (spec_l05All.l2 k2 ((x9_2 + 1) % 256) t181 s0_1 s0_2 x160000_1 x160001_1 (x160002_2 ++ [t182])) else (none)) = some (r1, r2, r3, r4) := H
              have A63 := Aside0.mk A630
              clear A630
              by_cases c64 : x160002_2.length < 17592186044416
              · rw [if_pos c64] at H
                have LMc64 := Aside0.mk c64
                clear c64
                obtain ⟨y183, hy183⟩ : ∃ y_ : List Int, y_ = (x160002_2 ++ [t182]) := ⟨_, rfl⟩
                replace H : (spec_l05All.l2 k2 ((x9_2 + 1) % 256) t181 s0_1 s0_2 x160000_1 x160001_1 y183) = some (r1, r2, r3, r4) := by first | (rw [hy183]; with_reducible exact H) | (have H2_ := (Option.bind_some _ _).symm.trans H; rw [hy183]; with_reducible exact H2_) | (have H2_ := (Option.bind_some _ _).symm.trans H; with_reducible exact H2_) | with_reducible exact H | (rw [hy183]; exact H) | exact H
                have Ny183 := Aside0.mk hy183
                clear hy183
                have H' := Aside0.mk H
                clear H
                try go_wp2
                have n0_ := Aside0.mk (Kd.R_drew HO_160000.out)
                have n1_ := Aside0.mk (Kd.N_drew HO_160001.out)
                have n2_ := Aside0.mk (Kd.R_drew HO_160002.out)
                have n3_ := Aside0.mk (blk_drew BK159.out)
                have n4_ := Aside0.mk (IsS27.drew HI0.out)
                have n5_ := Aside0.mk (keep_drew HK.out)
                have n6_ := Aside0.mk (below_drew1 HB.out)
                clear HO_160000
                clear HO_160001
                clear HO_160002
                clear BK159
                clear HI0
                clear HK
                clear HB
                have HO_160000 := n0_
                have HO_160001 := n1_
                have HO_160002 := n2_
                have BK159 := n3_
                have HI0 := n4_
                have HK := n5_
                have HB := n6_
                clear n0_ n1_ n2_ n3_ n4_ n5_ n6_
                refine start_ (n := 17) (S := fun w' => w'.cell? ⟨gb159, 0, none⟩ = some (.slice Ao60 x160000_1.length co60) ∧ w'.cell? ⟨gb159, 1, none⟩ = some (u160001) ∧ w'.cell? ⟨gb159, 2, none⟩ = some (u160002)) (ds := [16]) #[false, false, false, false, false, false, false, false, false, false, false, false, false, false, false, false, false] (by kernel_rfl) rfl rfl ⟨(blk_cell BK159.out 0).trans rfl, (blk_cell BK159.out 1).trans rfl, (blk_cell BK159.out 2).trans rfl⟩ (fun hHeld => ?_); refine with_tabW spec_l05All.tab18 spec_l05All.bits18 (fun HT_ HW_ => ?_)
                generalize wr.drew = w65 at HO_160000 HO_160001 HO_160002 BK159 HI0 HK HB hHeld ⊢
                refine pure_ (i := 0) (N := some 78) (v := ?_) (a' := ?_) #[true, false, false, false, false, false, false, false, false, false, false, false, false, false, false, false, false] rfl rfl (any_of HT_.out (by kernel_rfl)) (fun _ _ _ h => h) (Or.inl ⟨by rfl, ?_⟩) ?_ ?_
                rotate_left
                · intro w'
                  go_simp
                  with_reducible rfl
                rotate_left
                · simp only [Act.put, List.setIfInBounds_toArray, List.set_cons_zero, List.set_cons_succ, i64_w, i32_w]
                  rfl
                refine pure_ (i := 1) (N := some 79) (v := ?_) (a' := ?_) #[true, true, false, false, false, false, false, false, false, false, false, false, false, false, false, false, false] rfl rfl (any_of HT_.out (by kernel_rfl)) (fun _ _ _ h => h) (Or.inl ⟨by rfl, ?_⟩) ?_ ?_
                rotate_left
                · intro w'
                  go_simp
                  with_reducible rfl
                rotate_left
                · simp only [Act.put, List.setIfInBounds_toArray, List.set_cons_zero, List.set_cons_succ, i64_w, i32_w]
                  rfl
                refine pure_ (i := 2) (N := some 80) (v := ?_) (a' := ?_) #[true, true, true, false, false, false, false, false, false, false, false, false, false, false, false, false, false] rfl rfl (any_of HT_.out (by kernel_rfl)) (fun _ _ _ h => h) (Or.inl ⟨by rfl, ?_⟩) ?_ ?_
                rotate_left
                · intro w'
                  go_simp
                  with_reducible rfl
                rotate_left
                · simp only [Act.put, List.setIfInBounds_toArray, List.set_cons_zero, List.set_cons_succ, i64_w, i32_w]
                  rfl
                refine pure_ (i := 3) (N := some 81) (v := ?_) (a' := ?_) #[true, true, true, true, false, false, false, false, false, false, false, false, false, false, false, false, false] rfl rfl (any_of HT_.out (by kernel_rfl)) (fun _ _ _ h => h) (Or.inl ⟨by rfl, ?_⟩) ?_ ?_
                rotate_left
                · intro w'
                  go_simp
                  with_reducible rfl
                rotate_left
                · simp only [Act.put, List.setIfInBounds_toArray, List.set_cons_zero, List.set_cons_succ, i64_w, i32_w]
                  rfl
                refine pure_ (i := 5) (N := some 83) (v := ?_) (a' := ?_) #[true, true, true, true, false, true, false, false, false, false, false, false, false, false, false, false, false] rfl rfl (any_of HT_.out (by kernel_rfl)) (fun _ _ _ h => h) (Or.inl ⟨by rfl, ?_⟩) ?_ ?_
                rotate_left
                · intro w'
                  go_simp
                  with_reducible rfl
                rotate_left
                · simp only [Act.put, List.setIfInBounds_toArray, List.set_cons_zero, List.set_cons_succ, i64_w, i32_w]
                  rfl
                refine pure_ (i := 6) (N := some 84) (v := ?_) (a' := ?_) #[true, true, true, true, false, true, true, false, false, false, false, false, false, false, false, false, false] rfl rfl (any_of HT_.out (by kernel_rfl)) (fun _ _ _ h => h) (Or.inl ⟨by rfl, ?_⟩) ?_ ?_
                rotate_left
                · intro w'
                  go_simp
                  with_reducible rfl
                rotate_left
                · simp only [Act.put, List.setIfInBounds_toArray, List.set_cons_zero, List.set_cons_succ, i64_w, i32_w]
                  rfl
                refine pure_ (i := 7) (N := some 85) (v := ?_) (a' := ?_) #[true, true, true, true, false, true, true, true, false, false, false, false, false, false, false, false, false] rfl rfl (any_of HT_.out (by kernel_rfl)) (fun _ _ _ h => h) (Or.inl ⟨by rfl, ?_⟩) ?_ ?_
                rotate_left
                · intro w'
                  go_simp
                  with_reducible rfl
                rotate_left
                · simp only [Act.put, List.setIfInBounds_toArray, List.set_cons_zero, List.set_cons_succ, i64_w, i32_w]
                  rfl
                refine take_ (i := 4) (N := some 82) (v := ?_) (a' := ?_) #[true, true, true, true, true, true, true, true, false, false, false, false, false, false, false, false, false] rfl rfl (take_ofW HT_.out HW_.out (by kernel_rfl)) (fun _ _ _ h => h) (Or.inl ⟨by rfl, ?_⟩) hHeld ?_ ?_
                rotate_left
                · rintro w' ⟨s0, s1, s2⟩
                  go_simp
                  with_reducible rfl
                rotate_left
                · simp only [Act.put, List.setIfInBounds_toArray, List.set_cons_zero, List.set_cons_succ, i64_w, i32_w]
                  rfl
                refine one_ (i := 8) (N := some 86) #[true, true, true, true, true, true, true, true, true, false, false, false, false, false, false, false, false] rfl rfl (one_of HT_.out (by kernel_rfl)) (by decide) (fun K hK => ?_)
                refine Kd.R_lit_step (Kd.int .u8) _ 5 ?hg (N := 86) ?hd (xs := ([x9_2] : List Int)) (inner := [.int .u8 x9_2]) (ok := fun _ => True) (okp := fun _ => True) ?hr ?hp (fun _ hk => hk) trivial (Below.refl _ _) (Nat.le_refl _) (by simp) ?_; (case hd => rfl); (case hg => rfl); (case hr => first | (go_simp; done) | (go_simp; rfl)); (case hp => exact (Reps.one (show Kd.M (Kd.int .u8) _ _ _ x9_2 [.int .u8 x9_2] from rfl) (Reps.none _ _)))
                intro v176 w66 ho67 hb hg_ hnew_
                clear hg_ hnew_
                (first | rw [← Ny175.out] at ho67 | (simp only [Int.reduceToNat] at ho67; rw [← Ny175.out] at ho67))
                have n0_ := Aside0.mk (Kd.R_below (by (with_reducible repeat (first | apply Kd.R_alloc | apply Kd.R_drewN | apply Kd.R_drew)); exact HO_160000.out) hb)
                have n1_ := Aside0.mk (Kd.N_elder' (by (with_reducible repeat (first | apply Kd.N_alloc | apply Kd.N_drewN | apply Kd.N_drew)); exact HO_160001.out) (Kd.R_base ho67) hb)
                have n2_ := Aside0.mk (Kd.R_below (by (with_reducible repeat (first | apply Kd.R_alloc | apply Kd.R_drewN | apply Kd.R_drew)); exact HO_160002.out) hb)
                have n3_ := Aside0.mk (Kd.R_lower (Kd.R_newM (M := fun k_ => (w.heap.size ≤ k_)) ho67 (keep_size (w := w) (g := g) (row := none) (by repeat (first | (with_reducible first | exact HK.out | apply KeepBut.set_ | apply keep_drewN | apply keep_drew | apply keep_alloc | refine keep_far ?_ GW159.out _) | exact HK.out))) (fun k_ h_ => h_)) (keep_size (w := w) (g := g) (row := none) (by repeat (first | (with_reducible first | exact HK.out | apply KeepBut.set_ | apply keep_drewN | apply keep_drew | apply keep_alloc | refine keep_far ?_ GW159.out _) | exact HK.out))))
                have n4_ := Aside0.mk (blk_below (g := gb159) (o := .cells #[.slice Ao60 x160000_1.length co60, u160001, u160002] 62 (0, 0)) (by (with_reducible repeat (first | refine blk_drewN ?_ _ | refine blk_drew ?_ | refine blk_alloc ?_ _)); exact BK159.out) hb)
                have n5_ := Aside0.mk (IsS27.below (by repeat (first | (with_reducible first | exact HI0.out | apply IsS27.alloc | apply IsS27.drewN | apply IsS27.drew | apply IsS27.set_0 | refine IsS27.far ?_ NB0_159.out _) | exact HI0.out)) hb)
                have n6_ := Aside0.mk (KeepBut.trans (by repeat (first | (with_reducible first | exact HK.out | apply KeepBut.set_ | apply keep_drewN | apply keep_drew | apply keep_alloc | refine keep_far ?_ GW159.out _) | exact HK.out)) (KeepBut.of_below hb g none) (.inl rfl))
                have n7_ := Aside0.mk (below_step (by repeat (first | (with_reducible first | exact HB.out | apply below_alloc | apply pw_below_drewN | apply below_drew1 | refine below_set ?_ (IsS27.ge HI0.out) | refine below_set ?_ GE159.out) | exact HB.out)) hb)
                clear HO_160000
                clear HO_160001
                clear HO_160002
                clear BK159
                clear HI0
                clear HK
                clear HB
                have HO_160000 := n0_
                have HO_160001 := n1_
                have HO_160002 := n2_
                have HO177 := n3_
                have BK159 := n4_
                have HI0 := n5_
                have HK := n6_
                have HB := n7_
                clear n0_ n1_ n2_ n3_ n4_ n5_ n6_ n7_
                clear hb ho67
                refine hK.out _ _ ⟨(blk_cell BK159.out 0).trans rfl, (blk_cell BK159.out 1).trans rfl, (blk_cell BK159.out 2).trans rfl⟩ (fun hHeld => ?_)
                clear hK K
                refine norm_ (a' := ?_) ?_ ?_
                rotate_left
                · show Act.put _ (some 86) _ = _
                  simp only [Act.put, List.setIfInBounds_toArray, List.set_cons_zero, List.set_cons_succ, i64_w, i32_w]
                  rfl
                refine one_ (i := 9) (N := some 87) #[true, true, true, true, true, true, true, true, true, true, false, false, false, false, false, false, false] rfl rfl (one_of HT_.out (by kernel_rfl)) (by decide) (fun K hK => ?_)
                have hcv68 := own_string (P := Try.prog) Try.underlying57 Try.underlying5 Try.underlying9 (Kd.own_of_R HO177.out)
                refine value_ (w1 := ?_) (v := ?_) (by rfl) rfl ?_ ?_
                rotate_left 2
                · go_simp
                  constructor
                  · rfl
                  · rfl
                clear hcv68
                refine hK.out _ _ ⟨(blk_cell BK159.out 0).trans rfl, (blk_cell BK159.out 1).trans rfl, (blk_cell BK159.out 2).trans rfl⟩ (fun hHeld => ?_)
                clear hK K
                refine norm_ (a' := ?_) ?_ ?_
                rotate_left
                · show Act.put _ (some 87) _ = _
                  simp only [Act.put, List.setIfInBounds_toArray, List.set_cons_zero, List.set_cons_succ, i64_w, i32_w]
                  rfl
                refine one_ (i := 10) (N := some 88) #[true, true, true, true, true, true, true, true, true, true, true, false, false, false, false, false, false] rfl rfl (one_of HT_.out (by kernel_rfl)) (by decide) (fun K hK => ?_)
                refine goes_ Try.func57 (by kernel_rfl) rfl #[.pointer (some ⟨g, 0, none⟩), .string (strOfNums y175)] (by rfl) rfl rfl (by (try simp only [List.map_toArray, List.map_cons, List.map_nil]); first | done | rfl | (simp only [List.length_drop, List.length_take]; rfl)) ?_
                with_reducible refine (spec_l05Map.calls k2 g x1000_2 s0_1 s0_2 (strOfNums y175) t178 t181 w0 _ ?side1 ?side2 A62.out).mono ?_
                (case side1 => repeat (first | (with_reducible first | exact HI0.out | apply IsS27.alloc | apply IsS27.drewN | apply IsS27.drew | apply IsS27.set_0 | refine IsS27.far ?_ NB0_159.out _) | exact HI0.out))
                (case side2 => repeat (first | (with_reducible first | exact HB.out | apply below_alloc | apply pw_below_drewN | apply below_drew1 | refine below_set ?_ (IsS27.ge HI0.out) | refine below_set ?_ GE159.out) | exact HB.out))
                rintro e w69 ⟨v179, rfl, ho0, hi, hb, hk⟩
                refine ⟨_, rfl, ?_⟩
                have n0_ := Aside0.mk (Kd.R_mono (Kd.R_keep (IsS27.apart (show IsS27 w0 _ g x1000_2 s0_1 s0_2 from by repeat (first | (with_reducible first | exact HI0.out | apply IsS27.alloc | apply IsS27.drewN | apply IsS27.drew | apply IsS27.set_0 | refine IsS27.far ?_ NB0_159.out _) | exact HI0.out)) (by (with_reducible repeat (first | apply Kd.R_alloc | apply Kd.R_drewN | apply Kd.R_drew)); exact HO_160000.out) (by decide)) hk (fun _ h => h.2)) (fun _ h => h.1))
                have n1_ := Aside0.mk (Kd.N_mono (Kd.N_told (Kd.N_oldK (Kd.N_mono (ok := fun k_ => ((((w.heap.size ≤ k_)) ∧ (some k_ ≠ (.slice Ao60 x160000_1.length co60 : Value).ownBlock ∧ (some k_ ≠ (u160002 : Value).ownBlock ∧ (k_ ≠ gb159 ∧ k_ ≠ g)))) ∧ some k_ ≠ (v176 : Value).ownBlock)) (by (with_reducible repeat (first | apply Kd.N_alloc | apply Kd.N_drewN | apply Kd.N_drew)); exact HO_160001.out) (fun k_ hk_ => (⟨hk_, hk_.1.2.2.2.2⟩ : _ ∧ k_ ≠ g))) hk) (Kd.R_base ho0)) (fun _ h_ => h_.1))
                have n2_ := Aside0.mk (Kd.R_mono (Kd.R_told (Kd.R_oldK (IsS27.apart (show IsS27 w0 _ g x1000_2 s0_1 s0_2 from by repeat (first | (with_reducible first | exact HI0.out | apply IsS27.alloc | apply IsS27.drewN | apply IsS27.drew | apply IsS27.set_0 | refine IsS27.far ?_ NB0_159.out _) | exact HI0.out)) (by (with_reducible repeat (first | apply Kd.R_alloc | apply Kd.R_drewN | apply Kd.R_drew)); exact HO_160002.out) (by decide)) hk) (Kd.R_base ho0)) (fun _ h_ => h_.1))
                have n3_ := Aside0.mk (KeepBut.blk hk (g' := gb159) (o := .cells #[.slice Ao60 x160000_1.length co60, u160001, u160002] 62 (0, 0)) (by (with_reducible repeat (first | refine blk_drewN ?_ _ | refine blk_drew ?_ | refine blk_alloc ?_ _)); exact BK159.out) NB159_0.out (by simp))
                have n4_ := Aside0.mk (Kd.R_mono (Kd.R_keep (IsS27.apart (show IsS27 w0 _ g x1000_2 s0_1 s0_2 from by repeat (first | (with_reducible first | exact HI0.out | apply IsS27.alloc | apply IsS27.drewN | apply IsS27.drew | apply IsS27.set_0 | refine IsS27.far ?_ NB0_159.out _) | exact HI0.out)) (by (with_reducible repeat (first | apply Kd.R_alloc | apply Kd.R_drewN | apply Kd.R_drew)); exact HO177.out) (by decide)) hk (fun _ h => h.2)) (fun _ h => h.1))
                have n5_ := Aside0.mk (Kd.R_lower (Kd.R_new' (Kd.R_newM (M := fun k_ => (w.heap.size ≤ k_)) ho0 (keep_size (w := w) (g := g) (row := none) (by repeat (first | (with_reducible first | exact HK.out | apply KeepBut.set_ | apply keep_drewN | apply keep_drew | apply keep_alloc | refine keep_far ?_ GW159.out _) | exact HK.out))) (fun k_ h_ => h_)) (Kd.R_lt (by (with_reducible repeat (first | apply Kd.R_alloc | apply Kd.R_drewN | apply Kd.R_drew)); exact HO_160002.out))) (keep_size (w := w) (g := g) (row := none) (by repeat (first | (with_reducible first | exact HK.out | apply KeepBut.set_ | apply keep_drewN | apply keep_drew | apply keep_alloc | refine keep_far ?_ GW159.out _) | exact HK.out))))
                have n6_ := Aside0.mk (KeepBut.trans (by repeat (first | (with_reducible first | exact HK.out | apply KeepBut.set_ | apply keep_drewN | apply keep_drew | apply keep_alloc | refine keep_far ?_ GW159.out _) | exact HK.out)) hk (.inl rfl))
                have n7_ := Aside0.mk (hb)
                have n8_ := Aside0.mk (hi)
                clear HO_160000
                clear HO_160001
                clear HO_160002
                clear BK159
                clear HO177
                clear HK
                clear HB
                clear HI0
                have HO_160000 := n0_
                have HO_160001 := n1_
                have HO_160002 := n2_
                have BK159 := n3_
                have HO177 := n4_
                have HO180 := n5_
                have HK := n6_
                have HB := n7_
                have HI0 := n8_
                clear n0_ n1_ n2_ n3_ n4_ n5_ n6_ n7_ n8_
                (try clear hb)
                (try clear hb2)
                (try clear hk)
                (try clear hi)
                (try clear ho0)
                obtain ⟨Ao70, co70, eo70⟩ := Kd.N_slice HO_160001.out
                (first | subst eo70 | (injection eo70 with f1_ f2_ f3_; have f4_ := f1_.symm; have f5_ := f3_.symm; clear f1_ f2_ f3_; subst f4_; subst f5_))
                obtain ⟨Ao71, co71, eo71⟩ := Kd.R_slice HO180.out
                (first | subst eo71 | (injection eo71 with f1_ f2_ f3_; have f4_ := f1_.symm; have f5_ := f3_.symm; clear f1_ f2_ f3_; subst f4_; subst f5_))
                refine hK.out _ _ ⟨(blk_cell BK159.out 0).trans rfl, (blk_cell BK159.out 1).trans rfl, (blk_cell BK159.out 2).trans rfl⟩ (fun hHeld => ?_)
                clear hK K
                refine norm_ (a' := ?_) ?_ ?_
                rotate_left
                · show Act.put _ (some 88) _ = _
                  simp only [Act.put, List.setIfInBounds_toArray, List.set_cons_zero, List.set_cons_succ, i64_w, i32_w]
                  rfl
                refine one_ (i := 11) (N := some 89) #[true, true, true, true, true, true, true, true, true, true, true, true, false, false, false, false, false] rfl rfl (one_of HT_.out (by kernel_rfl)) (by decide) (fun K hK => ?_)
                refine goes_ Try.func58 (by kernel_rfl) rfl #[.pointer (some ⟨gb159, 0, none⟩), .slice Ao71 t178.length co71] (by rfl) rfl rfl (by (try simp only [List.map_toArray, List.map_cons, List.map_nil]); first | done | rfl | (simp only [List.length_drop, List.length_take]; rfl)) ?_
                with_reducible refine (spec_l05Maps_find.calls k2 Ao70 co70 x160001_1 _ _ t178 t182 _ gb159 ?hm0 ?side1 ?side2 ?side3 ?side4 A63.out).mono ?_
                (case hm0 => exact (blk_cell (by (with_reducible repeat (first | refine blk_drewN ?_ _ | refine blk_drew ?_ | refine blk_alloc ?_ _)); exact BK159.out) 1).trans rfl)
                (case side1 => repeat (first | exact (Kd.N_reads' HO_160001.out).2.2 | (with_reducible refine Kd.C_alloc ?_ _) | (with_reducible refine Kd.C_drewN ?_ _) | (with_reducible refine Kd.C_drew ?_)))
                (case side2 => exact (Kd.N_reads' HO_160001.out).2.1)
                (case side3 => repeat (first | exact (Kd.R_reads' HO180.out).2.2 | (with_reducible refine Kd.C_alloc ?_ _) | (with_reducible refine Kd.C_drewN ?_ _) | (with_reducible refine Kd.C_drew ?_)))
                (case side4 => exact (Kd.R_reads' HO180.out).2.1)
                rintro e w' ⟨rfl, ⟨nd, rfl⟩⟩
                refine ⟨_, rfl, ?_⟩
                refine hK.out _ _ ⟨(blk_cell BK159.out 0).trans rfl, (blk_cell BK159.out 1).trans rfl, (blk_cell BK159.out 2).trans rfl⟩ (fun hHeld => ?_)
                clear hK K
                refine norm_ (a' := ?_) ?_ ?_
                rotate_left
                · show Act.put _ (some 89) _ = _
                  simp only [Act.put, List.setIfInBounds_toArray, List.set_cons_zero, List.set_cons_succ, i64_w, i32_w]
                  rfl
                refine one_ (i := 12) (N := some 90) #[true, true, true, true, true, true, true, true, true, true, true, true, true, false, false, false, false] rfl rfl (one_of HT_.out (by kernel_rfl)) (by decide) (fun K hK => ?_)
                refine value_ (w1 := ?_) (v := ?_) (by rfl) rfl ?_ ?_
                rotate_left 2
                · go_simp
                  constructor
                  · rfl
                  · rfl
                refine hK.out _ _ ⟨(blk_cell (blk_alloc BK159.out _) 0).trans rfl, (blk_cell (blk_alloc BK159.out _) 1).trans rfl, (blk_cell (blk_alloc BK159.out _) 2).trans rfl⟩ (fun hHeld => ?_)
                clear hK K
                refine norm_ (a' := ?_) ?_ ?_
                rotate_left
                · show Act.put _ (some 90) _ = _
                  simp only [Act.put, List.setIfInBounds_toArray, List.set_cons_zero, List.set_cons_succ, i64_w, i32_w]
                  rfl
                refine one_ (i := 13) (N := some 91) #[true, true, true, true, true, true, true, true, true, true, true, true, true, true, false, false, false] rfl rfl (one_of HT_.out (by kernel_rfl)) (by decide) (fun K hK => ?_)
                refine Kd.R_append_step (Kd.int .i64) w.heap.size (by rfl) (.tmp 82) (.tmp 90) 48 2 (.int .i64 0) 8 rfl Try.underlying48 info2 rfl (by decide) (by omega) u160002 x160002_2 t182 [.int .i64 t182] (fun k_ => (w.heap.size ≤ k_) ∧ some k_ ≠ (.slice Ao71 t178.length co71 : Value).ownBlock) (fun _ => False) rfl rfl ?aP (fun _ hk => hk.elim) ?aF ?aO (Below.refl _ _) ?aS ?aL ?_
                (case aP => exact rfl)
                (case aF => exact (fun k_ hk => ⟨(Nat.le_trans (keep_size (w := w) (g := g) (row := none) (by repeat (first | (with_reducible first | exact HK.out | apply KeepBut.set_ | apply keep_drewN | apply keep_drew | apply keep_alloc | refine keep_far ?_ GW159.out _) | exact HK.out))) hk), Kd.fresh' (Kd.R_lt (by (with_reducible repeat (first | apply Kd.R_alloc | apply Kd.R_drewN | apply Kd.R_drew)); exact HO180.out)) k_ hk⟩))
                (case aO => exact (by (with_reducible repeat (first | apply Kd.R_alloc | apply Kd.R_drewN | apply Kd.R_drew)); exact HO_160002.out))
                (case aS => exact (keep_size (w := w) (g := g) (row := none) (by repeat (first | (with_reducible first | exact HK.out | apply KeepBut.set_ | apply keep_drewN | apply keep_drew | apply keep_alloc | refine keep_far ?_ GW159.out _) | exact HK.out))))
                (case aL => have := LMc64.out; omega)
                intro v184 w72 ho hb hg hat
                rw [← Ny183.out] at ho
                have n0_ := Aside0.mk (Kd.R_over' (by (with_reducible repeat (first | apply Kd.R_alloc | apply Kd.R_drewN | apply Kd.R_drew)); exact HO_160000.out) (Kd.R_typed (by (with_reducible repeat (first | apply Kd.R_alloc | apply Kd.R_drewN | apply Kd.R_drew)); exact HO_160002.out)) (by decide) hg)
                have n1_ := Aside0.mk (Kd.N_afterv (ok := (fun k_ => (w.heap.size ≤ k_) ∧ some k_ ≠ (.slice Ao60 x160000_1.length co60 : Value).ownBlock ∧ some k_ ≠ (v176 : Value).ownBlock ∧ some k_ ≠ (.slice Ao71 t178.length co71 : Value).ownBlock ∧ k_ ≠ gb159 ∧ k_ ≠ g)) (by (with_reducible repeat (first | apply Kd.N_alloc | apply Kd.N_drewN | apply Kd.N_drew)); exact Kd.N_mono HO_160001.out (fun _ hk => by first | exact ⟨⟨hk.1.1.1, ⟨hk.1.1.2.1, ⟨hk.1.2, ⟨hk.2, ⟨hk.1.1.2.2.2.1, hk.1.1.2.2.2.2⟩⟩⟩⟩⟩, hk.1.1.2.2.1⟩ | ((try simp only [and_assoc] at hk ⊢); first | (obtain ⟨h0_, h1_, h2_, h3_, h4_, h5_, h6_, h7_, h8_⟩ := hk; repeat' (first | assumption | refine ⟨?_, ?_⟩)) | (obtain ⟨h0_, h1_, h2_, h3_, h4_, h5_, h6_, h7_⟩ := hk; repeat' (first | assumption | refine ⟨?_, ?_⟩)) | (obtain ⟨h0_, h1_, h2_, h3_, h4_, h5_, h6_⟩ := hk; repeat' (first | assumption | refine ⟨?_, ?_⟩)) | (obtain ⟨h0_, h1_, h2_, h3_, h4_, h5_⟩ := hk; repeat' (first | assumption | refine ⟨?_, ?_⟩)) | (obtain ⟨h0_, h1_, h2_, h3_, h4_⟩ := hk; repeat' (first | assumption | refine ⟨?_, ?_⟩)) | (obtain ⟨h0_, h1_, h2_, h3_⟩ := hk; repeat' (first | assumption | refine ⟨?_, ?_⟩)) | (obtain ⟨h0_, h1_, h2_⟩ := hk; repeat' (first | assumption | refine ⟨?_, ?_⟩)) | (obtain ⟨h0_, h1_⟩ := hk; repeat' (first | assumption | refine ⟨?_, ?_⟩))))) hg hat)
                have n2_ := Aside0.mk (blk_grown (g := gb159) (o := .cells #[.slice Ao60 x160000_1.length co60, .slice Ao70 x160001_1.length co70, u160002] 62 (0, 0)) (by (with_reducible repeat (first | refine blk_drewN ?_ _ | refine blk_drew ?_ | refine blk_alloc ?_ _)); exact BK159.out) hg (Kd.R_ne HO_160002.out BK159.out (by decide)))
                have n3_ := Aside0.mk (IsS27.grown (by repeat (first | (with_reducible first | exact HI0.out | apply IsS27.alloc | apply IsS27.drewN | apply IsS27.drew | apply IsS27.set_0 | refine IsS27.far ?_ NB0_159.out _) | exact HI0.out)) hg (IsS27.own_ne HI0.out HO_160002.out (by decide)))
                have n4_ := Aside0.mk (Kd.R_over' (by (with_reducible repeat (first | apply Kd.R_alloc | apply Kd.R_drewN | apply Kd.R_drew)); exact HO177.out) (Kd.R_typed (by (with_reducible repeat (first | apply Kd.R_alloc | apply Kd.R_drewN | apply Kd.R_drew)); exact HO_160002.out)) (by decide) hg)
                have n5_ := Aside0.mk (Kd.R_after (ok := (fun k_ => (w.heap.size ≤ k_))) (by (with_reducible repeat (first | apply Kd.R_alloc | apply Kd.R_drewN | apply Kd.R_drew)); exact Kd.R_mono HO180.out (fun _ hk => by first | exact ⟨hk.1.1, hk.2⟩ | ((try simp only [and_assoc] at hk ⊢); first | (obtain ⟨h0_, h1_, h2_, h3_, h4_, h5_, h6_, h7_, h8_⟩ := hk; repeat' (first | assumption | refine ⟨?_, ?_⟩)) | (obtain ⟨h0_, h1_, h2_, h3_, h4_, h5_, h6_, h7_⟩ := hk; repeat' (first | assumption | refine ⟨?_, ?_⟩)) | (obtain ⟨h0_, h1_, h2_, h3_, h4_, h5_, h6_⟩ := hk; repeat' (first | assumption | refine ⟨?_, ?_⟩)) | (obtain ⟨h0_, h1_, h2_, h3_, h4_, h5_⟩ := hk; repeat' (first | assumption | refine ⟨?_, ?_⟩)) | (obtain ⟨h0_, h1_, h2_, h3_, h4_⟩ := hk; repeat' (first | assumption | refine ⟨?_, ?_⟩)) | (obtain ⟨h0_, h1_, h2_, h3_⟩ := hk; repeat' (first | assumption | refine ⟨?_, ?_⟩)) | (obtain ⟨h0_, h1_, h2_⟩ := hk; repeat' (first | assumption | refine ⟨?_, ?_⟩)) | (obtain ⟨h0_, h1_⟩ := hk; repeat' (first | assumption | refine ⟨?_, ?_⟩))))) hg hat)
                have n6_ := Aside0.mk (below_weaken (by repeat (first | (with_reducible first | exact HB.out | apply below_alloc | apply pw_below_drewN | apply below_drew1 | refine below_set ?_ (IsS27.ge HI0.out) | refine below_set ?_ GE159.out) | exact HB.out)) HL.out hb)
                have n7_ := Aside0.mk (KeepBut.trans (by repeat (first | (with_reducible first | exact HK.out | apply KeepBut.set_ | apply keep_drewN | apply keep_drew | apply keep_alloc | refine keep_far ?_ GW159.out _) | exact HK.out)) (KeepBut.of_grown hg g) (Kd.R_base2 HO_160002.out))
                have n8_ := Aside0.mk (ho)
                clear HO_160000
                clear HO_160001
                clear BK159
                clear HI0
                clear HO177
                clear HO180
                clear HB
                clear HK
                clear HO_160002
                have HO_160000 := n0_
                have HO_160001 := n1_
                have BK159 := n2_
                have HI0 := n3_
                have HO177 := n4_
                have HO180 := n5_
                have HB := n6_
                have HK := n7_
                have HO185 := n8_
                clear n0_ n1_ n2_ n3_ n4_ n5_ n6_ n7_ n8_
                clear ho hb hg hat
                obtain ⟨Ao73, co73, eo73⟩ := Kd.R_slice HO185.out
                (first | subst eo73 | (injection eo73 with f1_ f2_ f3_; have f4_ := f1_.symm; have f5_ := f3_.symm; clear f1_ f2_ f3_; subst f4_; subst f5_))
                refine hK.out _ _ ⟨(blk_cell BK159.out 0).trans rfl, (blk_cell BK159.out 1).trans rfl, (blk_cell BK159.out 2).trans rfl⟩ (fun hHeld => ?_)
                clear hK K
                refine norm_ (a' := ?_) ?_ ?_
                rotate_left
                · show Act.put _ (some 91) _ = _
                  simp only [Act.put, List.setIfInBounds_toArray, List.set_cons_zero, List.set_cons_succ, i64_w, i32_w]
                  rfl
                refine pure_ (i := 14) (N := some 92) (v := ?_) (a' := ?_) #[true, true, true, true, true, true, true, true, true, true, true, true, true, true, true, false, false] rfl rfl (any_of HT_.out (by kernel_rfl)) (fun _ _ _ h => h) (Or.inl ⟨by rfl, ?_⟩) ?_ ?_
                rotate_left
                · intro w'
                  go_simp
                  with_reducible rfl
                rotate_left
                · simp only [Act.put, List.setIfInBounds_toArray, List.set_cons_zero, List.set_cons_succ, i64_w, i32_w]
                  rfl
                refine pure_ (i := 15) (N := some 93) (v := ?_) (a' := ?_) #[true, true, true, true, true, true, true, true, true, true, true, true, true, true, true, true, false] rfl rfl (any_of HT_.out (by kernel_rfl)) (fun _ _ _ h => h) (Or.inl ⟨by rfl, ?_⟩) ?_ ?_
                rotate_left
                · intro w'
                  go_simp
                  with_reducible rfl
                rotate_left
                · simp only [Act.put, List.setIfInBounds_toArray, List.set_cons_zero, List.set_cons_succ, i64_w, i32_w]
                  rfl
                refine last_ (i := 16) (N := none) #[true, true, true, true, true, true, true, true, true, true, true, true, true, true, true, true, true] rfl rfl (one_of HT_.out (by kernel_rfl)) (by decide) (fun K hK => ?_)
                have hs74 : w72.cell? ⟨gb159, 2, none⟩ = some (u160002) := (blk_cell BK159.out 2).trans rfl
                have hfs74 := blk_frozen BK159.out 2
                refine skip_ (w1 := ?_) (by rfl) rfl ?_ ?_
                rotate_left
                · go_simp
                  rfl
                refine hK.out _ _ ?_
                clear hK K
                refine done_ (done_of HT_.out (by kernel_rfl)) ?_
                try go_wp2
                go_roundg k2
                case measure => have := HK1.out; have := HK2.out; omega
                case rel => exact ⟨((x9_2 + 1) % 256), (t181), (y183), (.slice Ao73 y183.length co73), (by first | rfl | (simp; done) | (simp [*]; done)), H', ⟨by have := HK1.out; have := HK2.out; omega⟩, ⟨by (with_reducible repeat (first | apply Kd.R_alloc | apply Kd.R_drewN | apply Kd.R_drew)); exact Kd.R_mono (Kd.R_far (p := ⟨gb159, 2, none⟩) (Kd.R_types HO_160000.out BK159.out (by decide)) (fun _ hk => by first | exact hk.2 | ((try simp only [and_assoc] at hk ⊢); first | (obtain ⟨h0_, h1_, h2_, h3_, h4_, h5_, h6_, h7_, h8_⟩ := hk; repeat' (first | assumption | refine ⟨?_, ?_⟩)) | (obtain ⟨h0_, h1_, h2_, h3_, h4_, h5_, h6_, h7_⟩ := hk; repeat' (first | assumption | refine ⟨?_, ?_⟩)) | (obtain ⟨h0_, h1_, h2_, h3_, h4_, h5_, h6_⟩ := hk; repeat' (first | assumption | refine ⟨?_, ?_⟩)) | (obtain ⟨h0_, h1_, h2_, h3_, h4_, h5_⟩ := hk; repeat' (first | assumption | refine ⟨?_, ?_⟩)) | (obtain ⟨h0_, h1_, h2_, h3_, h4_⟩ := hk; repeat' (first | assumption | refine ⟨?_, ?_⟩)) | (obtain ⟨h0_, h1_, h2_, h3_⟩ := hk; repeat' (first | assumption | refine ⟨?_, ?_⟩)) | (obtain ⟨h0_, h1_, h2_⟩ := hk; repeat' (first | assumption | refine ⟨?_, ?_⟩)) | (obtain ⟨h0_, h1_⟩ := hk; repeat' (first | assumption | refine ⟨?_, ?_⟩)))) (.slice Ao73 y183.length co73)) (fun _ hk => by first | exact hk.1 | ((try simp only [and_assoc] at hk ⊢); first | (obtain ⟨h0_, h1_, h2_, h3_, h4_, h5_, h6_, h7_, h8_⟩ := hk; repeat' (first | assumption | refine ⟨?_, ?_⟩)) | (obtain ⟨h0_, h1_, h2_, h3_, h4_, h5_, h6_, h7_⟩ := hk; repeat' (first | assumption | refine ⟨?_, ?_⟩)) | (obtain ⟨h0_, h1_, h2_, h3_, h4_, h5_, h6_⟩ := hk; repeat' (first | assumption | refine ⟨?_, ?_⟩)) | (obtain ⟨h0_, h1_, h2_, h3_, h4_, h5_⟩ := hk; repeat' (first | assumption | refine ⟨?_, ?_⟩)) | (obtain ⟨h0_, h1_, h2_, h3_, h4_⟩ := hk; repeat' (first | assumption | refine ⟨?_, ?_⟩)) | (obtain ⟨h0_, h1_, h2_, h3_⟩ := hk; repeat' (first | assumption | refine ⟨?_, ?_⟩)) | (obtain ⟨h0_, h1_, h2_⟩ := hk; repeat' (first | assumption | refine ⟨?_, ?_⟩)) | (obtain ⟨h0_, h1_⟩ := hk; repeat' (first | assumption | refine ⟨?_, ?_⟩))))⟩, ⟨by (with_reducible repeat (first | apply Kd.N_alloc | apply Kd.N_drewN | apply Kd.N_drew)); exact Kd.N_mono (Kd.N_far (p := ⟨gb159, 2, none⟩) (Kd.N_mono HO_160001.out (fun k_ hk => (⟨hk, by first | exact hk.1.2.2.2.2.1 | ((try simp only [and_assoc] at hk ⊢); first | (obtain ⟨h0_, h1_, h2_, h3_, h4_, h5_, h6_, h7_, h8_⟩ := hk; repeat' (first | assumption | refine ⟨?_, ?_⟩)) | (obtain ⟨h0_, h1_, h2_, h3_, h4_, h5_, h6_, h7_⟩ := hk; repeat' (first | assumption | refine ⟨?_, ?_⟩)) | (obtain ⟨h0_, h1_, h2_, h3_, h4_, h5_, h6_⟩ := hk; repeat' (first | assumption | refine ⟨?_, ?_⟩)) | (obtain ⟨h0_, h1_, h2_, h3_, h4_, h5_⟩ := hk; repeat' (first | assumption | refine ⟨?_, ?_⟩)) | (obtain ⟨h0_, h1_, h2_, h3_, h4_⟩ := hk; repeat' (first | assumption | refine ⟨?_, ?_⟩)) | (obtain ⟨h0_, h1_, h2_, h3_⟩ := hk; repeat' (first | assumption | refine ⟨?_, ?_⟩)) | (obtain ⟨h0_, h1_, h2_⟩ := hk; repeat' (first | assumption | refine ⟨?_, ?_⟩)) | (obtain ⟨h0_, h1_⟩ := hk; repeat' (first | assumption | refine ⟨?_, ?_⟩)))⟩ : _ ∧ k_ ≠ gb159))) (fun _ hk => by first | exact hk.2 | ((try simp only [and_assoc] at hk ⊢); first | (obtain ⟨h0_, h1_, h2_, h3_, h4_, h5_, h6_, h7_, h8_⟩ := hk; repeat' (first | assumption | refine ⟨?_, ?_⟩)) | (obtain ⟨h0_, h1_, h2_, h3_, h4_, h5_, h6_, h7_⟩ := hk; repeat' (first | assumption | refine ⟨?_, ?_⟩)) | (obtain ⟨h0_, h1_, h2_, h3_, h4_, h5_, h6_⟩ := hk; repeat' (first | assumption | refine ⟨?_, ?_⟩)) | (obtain ⟨h0_, h1_, h2_, h3_, h4_, h5_⟩ := hk; repeat' (first | assumption | refine ⟨?_, ?_⟩)) | (obtain ⟨h0_, h1_, h2_, h3_, h4_⟩ := hk; repeat' (first | assumption | refine ⟨?_, ?_⟩)) | (obtain ⟨h0_, h1_, h2_, h3_⟩ := hk; repeat' (first | assumption | refine ⟨?_, ?_⟩)) | (obtain ⟨h0_, h1_, h2_⟩ := hk; repeat' (first | assumption | refine ⟨?_, ?_⟩)) | (obtain ⟨h0_, h1_⟩ := hk; repeat' (first | assumption | refine ⟨?_, ?_⟩)))) (.slice Ao73 y183.length co73)) (fun _ hk => by first | exact ⟨hk.1.1.1, ⟨hk.1.1.2.1, ⟨hk.1.2, ⟨hk.1.1.2.2.2.2.1, hk.1.1.2.2.2.2.2⟩⟩⟩⟩ | ((try simp only [and_assoc] at hk ⊢); first | (obtain ⟨h0_, h1_, h2_, h3_, h4_, h5_, h6_, h7_, h8_⟩ := hk; repeat' (first | assumption | refine ⟨?_, ?_⟩)) | (obtain ⟨h0_, h1_, h2_, h3_, h4_, h5_, h6_, h7_⟩ := hk; repeat' (first | assumption | refine ⟨?_, ?_⟩)) | (obtain ⟨h0_, h1_, h2_, h3_, h4_, h5_, h6_⟩ := hk; repeat' (first | assumption | refine ⟨?_, ?_⟩)) | (obtain ⟨h0_, h1_, h2_, h3_, h4_, h5_⟩ := hk; repeat' (first | assumption | refine ⟨?_, ?_⟩)) | (obtain ⟨h0_, h1_, h2_, h3_, h4_⟩ := hk; repeat' (first | assumption | refine ⟨?_, ?_⟩)) | (obtain ⟨h0_, h1_, h2_, h3_⟩ := hk; repeat' (first | assumption | refine ⟨?_, ?_⟩)) | (obtain ⟨h0_, h1_, h2_⟩ := hk; repeat' (first | assumption | refine ⟨?_, ?_⟩)) | (obtain ⟨h0_, h1_⟩ := hk; repeat' (first | assumption | refine ⟨?_, ?_⟩))))⟩, ⟨by (with_reducible repeat (first | apply Kd.R_alloc | apply Kd.R_drewN | apply Kd.R_drew)); exact Kd.R_mono (Kd.R_far (p := ⟨gb159, 2, none⟩) (Kd.R_types HO185.out BK159.out (by decide)) (fun _ hk => by first | exact hk.2 | ((try simp only [and_assoc] at hk ⊢); first | (obtain ⟨h0_, h1_, h2_, h3_, h4_, h5_, h6_, h7_, h8_⟩ := hk; repeat' (first | assumption | refine ⟨?_, ?_⟩)) | (obtain ⟨h0_, h1_, h2_, h3_, h4_, h5_, h6_, h7_⟩ := hk; repeat' (first | assumption | refine ⟨?_, ?_⟩)) | (obtain ⟨h0_, h1_, h2_, h3_, h4_, h5_, h6_⟩ := hk; repeat' (first | assumption | refine ⟨?_, ?_⟩)) | (obtain ⟨h0_, h1_, h2_, h3_, h4_, h5_⟩ := hk; repeat' (first | assumption | refine ⟨?_, ?_⟩)) | (obtain ⟨h0_, h1_, h2_, h3_, h4_⟩ := hk; repeat' (first | assumption | refine ⟨?_, ?_⟩)) | (obtain ⟨h0_, h1_, h2_, h3_⟩ := hk; repeat' (first | assumption | refine ⟨?_, ?_⟩)) | (obtain ⟨h0_, h1_, h2_⟩ := hk; repeat' (first | assumption | refine ⟨?_, ?_⟩)) | (obtain ⟨h0_, h1_⟩ := hk; repeat' (first | assumption | refine ⟨?_, ?_⟩)))) (.slice Ao73 y183.length co73)) (fun _ hk => by first | exact hk.1.1 | ((try simp only [and_assoc] at hk ⊢); first | (obtain ⟨h0_, h1_, h2_, h3_, h4_, h5_, h6_, h7_, h8_⟩ := hk; repeat' (first | assumption | refine ⟨?_, ?_⟩)) | (obtain ⟨h0_, h1_, h2_, h3_, h4_, h5_, h6_, h7_⟩ := hk; repeat' (first | assumption | refine ⟨?_, ?_⟩)) | (obtain ⟨h0_, h1_, h2_, h3_, h4_, h5_, h6_⟩ := hk; repeat' (first | assumption | refine ⟨?_, ?_⟩)) | (obtain ⟨h0_, h1_, h2_, h3_, h4_, h5_⟩ := hk; repeat' (first | assumption | refine ⟨?_, ?_⟩)) | (obtain ⟨h0_, h1_, h2_, h3_, h4_⟩ := hk; repeat' (first | assumption | refine ⟨?_, ?_⟩)) | (obtain ⟨h0_, h1_, h2_, h3_⟩ := hk; repeat' (first | assumption | refine ⟨?_, ?_⟩)) | (obtain ⟨h0_, h1_, h2_⟩ := hk; repeat' (first | assumption | refine ⟨?_, ?_⟩)) | (obtain ⟨h0_, h1_⟩ := hk; repeat' (first | assumption | refine ⟨?_, ?_⟩))))⟩, ⟨by (with_reducible repeat (first | refine blk_drewN ?_ _ | refine blk_drew ?_ | refine blk_alloc ?_ _)); refine blk_put (cs := #[.slice Ao60 x160000_1.length co60, .slice Ao70 x160001_1.length co70, u160002]) ?_ 2 _ rfl; (with_reducible repeat (first | refine blk_drewN ?_ _ | refine blk_drew ?_ | refine blk_alloc ?_ _)); exact BK159.out⟩, ⟨by repeat (first | (with_reducible first | exact HI0.out | apply IsS27.alloc | apply IsS27.drewN | apply IsS27.drew | apply IsS27.set_0 | refine IsS27.far ?_ NB0_159.out _) | exact HI0.out)⟩, ⟨by repeat (first | (with_reducible first | exact HK.out | apply KeepBut.set_ | apply keep_drewN | apply keep_drew | apply keep_alloc | refine keep_far ?_ GW159.out _) | exact HK.out)⟩, ⟨by repeat (first | (with_reducible first | exact HB.out | apply below_alloc | apply pw_below_drewN | apply below_drew1 | refine below_set ?_ (IsS27.ge HI0.out) | refine below_set ?_ GE159.out) | exact HB.out)⟩⟩
              · rw [if_neg c64] at H
                exact absurd H (by simp)
            · rw [if_neg c61] at H
              have c61b0 : decide (x9_2 ≤ 100) = false := decide_eq_false c61
              clear c61
              simp only [Option.some.injEq, Prod.mk.injEq] at H
              obtain ⟨rfl, rfl, rfl, rfl⟩ := H
              have hnb75 := NB159_0.out
              have hnc75 := NB0_159.out
              have hcz76_0 : wr.cell? ⟨gb159, 0, none⟩ = some (.slice Ao60 x160000_1.length co60) := (blk_cell BK159.out 0).trans rfl
              have hcz76_1 : wr.cell? ⟨gb159, 1, none⟩ = some (u160001) := (blk_cell BK159.out 1).trans rfl
              have hcz76_2 : wr.cell? ⟨gb159, 2, none⟩ = some (u160002) := (blk_cell BK159.out 2).trans rfl
              have hfz76_0 := blk_frozen BK159.out 0
              have hfz76_1 := blk_frozen BK159.out 1
              have hfz76_2 := blk_frozen BK159.out 2
              go_wp2
              go_ret2
              exact ⟨gb159, _, _, _, by first | rfl | (simp [errW_none, errW_some] <;> rfl) | (simp [*, errW_none, errW_some] <;> rfl), (by (with_reducible repeat (first | refine blk_drewN ?_ _ | refine blk_drew ?_ | refine blk_alloc ?_ _)); exact BK159.out), GW159.out, by (with_reducible repeat (first | apply Kd.R_alloc | apply Kd.R_drewN | apply Kd.R_drew)); exact HO_160000.out, by (with_reducible repeat (first | apply Kd.N_alloc | apply Kd.N_drewN | apply Kd.N_drew)); exact Kd.N_mono HO_160001.out (fun _ hk => by first | exact ⟨hk.1, hk.2.1⟩ | ((try simp only [and_assoc] at hk ⊢); first | (obtain ⟨h0_, h1_, h2_, h3_, h4_, h5_, h6_, h7_, h8_⟩ := hk; repeat' (first | assumption | refine ⟨?_, ?_⟩)) | (obtain ⟨h0_, h1_, h2_, h3_, h4_, h5_, h6_, h7_⟩ := hk; repeat' (first | assumption | refine ⟨?_, ?_⟩)) | (obtain ⟨h0_, h1_, h2_, h3_, h4_, h5_, h6_⟩ := hk; repeat' (first | assumption | refine ⟨?_, ?_⟩)) | (obtain ⟨h0_, h1_, h2_, h3_, h4_, h5_⟩ := hk; repeat' (first | assumption | refine ⟨?_, ?_⟩)) | (obtain ⟨h0_, h1_, h2_, h3_, h4_⟩ := hk; repeat' (first | assumption | refine ⟨?_, ?_⟩)) | (obtain ⟨h0_, h1_, h2_, h3_⟩ := hk; repeat' (first | assumption | refine ⟨?_, ?_⟩)) | (obtain ⟨h0_, h1_, h2_⟩ := hk; repeat' (first | assumption | refine ⟨?_, ?_⟩)) | (obtain ⟨h0_, h1_⟩ := hk; repeat' (first | assumption | refine ⟨?_, ?_⟩)))), by repeat (first | (with_reducible first | exact HI0.out | apply IsS27.alloc | apply IsS27.drewN | apply IsS27.drew | apply IsS27.set_0 | refine IsS27.far ?_ NB0_159.out _) | exact HI0.out), by repeat (first | (with_reducible first | exact HB.out | apply below_alloc | apply pw_below_drewN | apply below_drew1 | refine below_set ?_ (IsS27.ge HI0.out) | refine below_set ?_ GE159.out) | exact HB.out), by repeat (first | (with_reducible first | exact HK.out | apply KeepBut.set_ | apply keep_drewN | apply keep_drew | apply keep_alloc | refine keep_far ?_ GW159.out _) | exact HK.out)⟩

/-! ### spec_l05Maps_product: function 44 -/
def spec_l05Maps_product.l0 : Nat → Int → Int → List Int → Int → List ByteArray → List (List Int) → List Int → Option (Int)
  | 0, _, _, _, _, _, _, _ => none
  | k + 1, x1, x2, x7, x8, x187000, x187001, x187002 => if 0 ≤ x1 then (if x1 < (x187001.length : Int) then (if x8 < ((rd_L1 x187001 x1).length : Int) then (if 0 ≤ x2 then (if x2 < (x187001.length : Int) then (if 0 ≤ x8 then (if 0 ≤ (rd (rd_L1 x187001 x1) x8) then (if (rd (rd_L1 x187001 x1) x8) < ((rd_L1 x187001 x2).length : Int) then (if x7.length < 17592186044416 then (spec_l05Maps_product.l0 k x1 x2 (x7 ++ [rd (rd_L1 x187001 x2) (rd (rd_L1 x187001 x1) x8)]) (wrap64 (x8 + 1)) x187000 x187001 x187002) else (none)) else (none)) else (none)) else (none)) else (none)) else (none)) else ((spec_l05Maps_find.f k x187001 x7).bind fun t198 => (some t198))) else (none)) else (none)
def spec_l05Maps_product.f (k : Nat) (l0_0 : List ByteArray) (l0_1 : List (List Int)) (l0_2 : List Int) (a1 : Int) (a2 : Int) : Option (Int) := spec_l05Maps_product.l0 k a1 a2 (([] : List Int)) 0 l0_0 l0_1 l0_2
theorem spec_l05Maps_product.mono_l : ∀ k, (∀ y0 y1 y2 y3 y4 y5 y6, LeO (spec_l05Maps_product.l0 k y0 y1 y2 y3 y4 y5 y6) (spec_l05Maps_product.l0 (k + 1) y0 y1 y2 y3 y4 y5 y6))
  | 0 => fun _ _ _ _ _ _ _ r h => by simp [spec_l05Maps_product.l0] at h
  | k + 1 => by
    have ih0 := spec_l05Maps_product.mono_l k
    · intro y0 y1 y2 y3 y4 y5 y6
      unfold spec_l05Maps_product.l0
      repeat' first
      | (with_reducible exact ih0 _ _ _ _ _ _ _)
      | (with_reducible exact spec_l05Maps_find.mono _ _ _)
      | (with_reducible exact LeO.refl _)
      | (with_reducible exact LeO.none _)
      | (with_reducible refine LeO.ite ?_ ?_)
      | (with_reducible refine LeO.bind ?_ (fun _ => ?_))
      | exact ih0 _ _ _ _ _ _ _
      | exact spec_l05Maps_find.mono _ _ _
      | exact LeO.none _
      | refine LeO.ite ?_ ?_
      | refine LeO.bind ?_ (fun _ => ?_)
theorem spec_l05Maps_product.mono : ∀ a0 a1 a2 a3 a4 k, LeO (spec_l05Maps_product.f k a0 a1 a2 a3 a4) (spec_l05Maps_product.f (k + 1) a0 a1 a2 a3 a4) := by
  intro a0 a1 a2 a3 a4 k
  have ih0 := spec_l05Maps_product.mono_l k
  unfold spec_l05Maps_product.f
  repeat' first
      | (with_reducible exact ih0 _ _ _ _ _ _ _)
      | (with_reducible exact spec_l05Maps_find.mono _ _ _)
      | (with_reducible exact LeO.refl _)
      | (with_reducible exact LeO.none _)
      | (with_reducible refine LeO.ite ?_ ?_)
      | (with_reducible refine LeO.bind ?_ (fun _ => ?_))
      | exact ih0 _ _ _ _ _ _ _
      | exact spec_l05Maps_find.mono _ _ _
      | exact LeO.none _
      | refine LeO.ite ?_ ?_
      | refine LeO.bind ?_ (fun _ => ?_)
def spec_l05Maps_product.T5 : Bool × List (List Nat × List Nat) := (true, [([], []), ([], []), ([1], [1]), ([2], [2]), ([3], [3]), ([], []), ([4, 5], [4, 5]), ([6], [6]), ([], []), ([8], [8]), ([9], [9]), ([10], [10]), ([], []), ([11, 12], [11, 12]), ([13], [13]), ([], []), ([14, 15], [14, 15]), ([16], [16]), ([7, 17], [7, 17]), ([18], [18]), ([19], [19]), ([0, 20], [0, 20]), ([21, 21, 0, 1, 2, 3, 4, 5, 6, 7, 8, 9, 10, 11, 12, 13, 14, 15, 16, 17, 18, 19, 20, 21], [0, 21])])
def spec_l05Maps_product.B5 : List Nat := [0, 0, 2, 6, 14, 0, 62, 126, 0, 256, 768, 1792, 0, 7936, 16128, 0, 65280, 130816, 262142, 524286, 1048574, 2097151, 4194303]
theorem spec_l05Maps_product.tab5 : rtab .any (opsOf Try.f44 5) = spec_l05Maps_product.T5 := by kernel_rfl
theorem spec_l05Maps_product.bits5 : waitsOk spec_l05Maps_product.T5.2 spec_l05Maps_product.B5 = true := by kernel_rfl
set_option maxHeartbeats 8000000 in
set_option maxRecDepth 100000 in
theorem spec_l05Maps_product.calls (k : Nat) (V0_ V2_ : Value) (l0_0 : List ByteArray) (A0_1 : Option Addr) (c0_1 : Nat) (l0_1 : List (List Int)) (l0_2 : List Int) (a1 : Int) (a2 : Int) (r : Int) (w : World) (g : Nat) (hbox : w.heap[g]? = some (.cells #[V0_, .slice A0_1 l0_1.length c0_1, V2_] 62 (0, 0))) (hr0_1 : Kd.C (Kd.slice 2 (Kd.int .i64)) w A0_1 l0_1.length l0_1) (hc0_1 : l0_1.length ≤ c0_1) (h : spec_l05Maps_product.f k l0_0 l0_1 l0_2 a1 a2 = some r) :
    Calls Try.prog 44 #[.pointer (some ⟨g, 0, none⟩), .int .i64 a1, .int .i64 a2] w fun e w' => e = .returned (.int .i64 r) ∧ Below w.heap.size w w' := by
  have hu62 := Try.underlying62
  have HR0_1 := Aside0.mk hr0_1
  have HC0_1 := Aside0.mk hc0_1
  clear hr0_1 hc0_1
  have HB := Aside0.mk (Below.refl w.heap.size w)
  have BK186 := Aside0.mk hbox
  clear hbox
  have H : (spec_l05Maps_product.l0 k a1 a2 (([] : List Int)) 0 l0_0 l0_1 l0_2) = some r := h
  clear h
  obtain ⟨y187, hy187⟩ : ∃ y_ : List Int, y_ = (([] : List Int)) := ⟨_, rfl⟩
  replace H : (spec_l05Maps_product.l0 k a1 a2 y187 0 l0_0 l0_1 l0_2) = some r := by first | (rw [hy187]; with_reducible exact H) | (have H2_ := (Option.bind_some _ _).symm.trans H; rw [hy187]; with_reducible exact H2_) | (have H2_ := (Option.bind_some _ _).symm.trans H; with_reducible exact H2_) | with_reducible exact H | (rw [hy187]; exact H) | exact H
  have Ny187 := Aside0.mk hy187
  clear hy187
  have H' := Aside0.mk H
  clear H
  go_enter Try.func44, Try.ntmps44
  go_wp2_with (first | ((with_reducible refine gate_dst (N := 9) rfl ?_); refine Kd.R_lit (Kd.int .i64) _ 2 ?hg (N := 9) ?hd (xs := ([] : List Int)) (inner := []) (ok := fun _ => True) (okp := fun _ => True) ?hr ?hp (fun _ hk => hk) trivial (Below.refl _ _) (Nat.le_refl _) (by simp) ?_; (case hd => rfl); (case hg => rfl); (case hr => first | (go_simp; done) | (go_simp; rfl)); (case hp => exact (Reps.none _ _)); intro v188 w5 ho6 hb hg_ hnew_; clear hg_ hnew_; (first | rw [← Ny187.out] at ho6 | (simp only [Int.reduceToNat] at ho6; rw [← Ny187.out] at ho6)); have n0_ := Aside0.mk (Kd.R_lower ho6 (below_size (by repeat (first | (with_reducible first | exact HB.out | apply below_alloc | apply pw_below_drewN | apply below_drew1 | refine below_set ?_ GE186.out) | exact HB.out)))); have n1_ := Aside0.mk (blk_below (g := g) (o := .cells #[V0_, .slice A0_1 l0_1.length c0_1, V2_] 62 (0, 0)) (by (with_reducible repeat (first | refine blk_drewN ?_ _ | refine blk_drew ?_ | refine blk_alloc ?_ _)); exact BK186.out) hb); have n2_ := Aside0.mk (below_step (by repeat (first | (with_reducible first | exact HB.out | apply below_alloc | apply pw_below_drewN | apply below_drew1 | refine below_set ?_ GE186.out) | exact HB.out)) hb); clear BK186; clear HB; have HO189 := n0_; have BK186 := n1_; have HB := n2_; clear n0_ n1_ n2_; clear hb ho6))
  go_loopg [7, 8] k (fun kq v7 v8 w' => ∃ (x7_1 : List Int) (x8_1 : Int), v8 = .int .i64 x8_1 ∧ Aside0 (spec_l05Maps_product.l0 kq a1 a2 x7_1 x8_1 l0_0 l0_1 l0_2 = some r) ∧ Aside0 (kq ≤ k) ∧ Aside0 (Kd.R (Kd.int .i64) 2 w' w.heap.size (fun _ => True) v7 x7_1) ∧ Aside0 (w'.heap[g]? = some (.cells #[V0_, (.slice A0_1 l0_1.length c0_1), V2_] 62 (0, 0))) ∧ Aside0 (Below w.heap.size w w'))
  case atStart => exact ⟨(y187), (0), (by first | rfl | (simp; done) | (simp [*]; done)), H', ⟨Nat.le_refl _⟩, ⟨by (with_reducible repeat (first | apply Kd.R_alloc | apply Kd.R_drewN | apply Kd.R_drew)); exact HO189.out⟩, ⟨by (with_reducible repeat (first | refine blk_drewN ?_ _ | refine blk_drew ?_ | refine blk_alloc ?_ _)); exact BK186.out⟩, ⟨by repeat (first | (with_reducible first | exact HB.out | apply below_alloc | apply pw_below_drewN | apply below_drew1 | refine below_set ?_ GE186.out) | exact HB.out)⟩⟩
  case round =>
    clear H'
    try clear p2
    try clear c4
    obtain ⟨x7_1, x8_1, rfl, HA, HK1, HO_7, BK186, HB⟩ := hrel
    cases gk with
    | zero => exact absurd HA.out (by simp [spec_l05Maps_product.l0])
    | succ k1 =>
      have H := HA.out
      clear HA
      simp only [spec_l05Maps_product.l0] at H
      by_cases c7 : 0 ≤ a1
      · rw [if_pos c7] at H
        have c7b0 : decide (0 ≤ a1) = true := decide_eq_true c7
        clear c7
        by_cases c8 : a1 < (l0_1.length : Int)
        · rw [if_pos c8] at H
          have c8b0 : decide (a1 < (l0_1.length : Int)) = true := decide_eq_true c8
          clear c8
          by_cases c9 : x8_1 < ((rd_L1 l0_1 a1).length : Int)
          · rw [if_pos c9] at H
            have c9b0 : decide (x8_1 < ((rd_L1 l0_1 a1).length : Int)) = true := decide_eq_true c9
            clear c9
            by_cases c10 : 0 ≤ a2
            · rw [if_pos c10] at H
              have c10b0 : decide (0 ≤ a2) = true := decide_eq_true c10
              clear c10
              by_cases c11 : a2 < (l0_1.length : Int)
              · rw [if_pos c11] at H
                have c11b0 : decide (a2 < (l0_1.length : Int)) = true := decide_eq_true c11
                clear c11
                by_cases c12 : 0 ≤ x8_1
                · rw [if_pos c12] at H
                  have c12b0 : decide (0 ≤ x8_1) = true := decide_eq_true c12
                  clear c12
                  by_cases c13 : 0 ≤ (rd (rd_L1 l0_1 a1) x8_1)
                  · rw [if_pos c13] at H
                    have c13b0 : decide (0 ≤ (rd (rd_L1 l0_1 a1) x8_1)) = true := decide_eq_true c13
                    clear c13
                    by_cases c14 : (rd (rd_L1 l0_1 a1) x8_1) < ((rd_L1 l0_1 a2).length : Int)
                    · rw [if_pos c14] at H
                      have c14b0 : decide ((rd (rd_L1 l0_1 a1) x8_1) < ((rd_L1 l0_1 a2).length : Int)) = true := decide_eq_true c14
                      clear c14
                      by_cases c15 : x7_1.length < 17592186044416
                      · rw [if_pos c15] at H
                        have LMc15 := Aside0.mk c15
                        clear c15
                        obtain ⟨y195, hy195⟩ : ∃ y_ : List Int, y_ = (x7_1 ++ [rd (rd_L1 l0_1 a2) (rd (rd_L1 l0_1 a1) x8_1)]) := ⟨_, rfl⟩
                        replace H : (spec_l05Maps_product.l0 k1 a1 a2 y195 (wrap64 (x8_1 + 1)) l0_0 l0_1 l0_2) = some r := by first | (rw [hy195]; with_reducible exact H) | (have H2_ := (Option.bind_some _ _).symm.trans H; rw [hy195]; with_reducible exact H2_) | (have H2_ := (Option.bind_some _ _).symm.trans H; with_reducible exact H2_) | with_reducible exact H | (rw [hy195]; exact H) | exact H
                        have Ny195 := Aside0.mk hy195
                        clear hy195
                        have H' := Aside0.mk H
                        clear H
                        have hcz16_0 : wr.cell? ⟨g, 0, none⟩ = some V0_ := (blk_cell BK186.out 0).trans rfl
                        have hcz16_1 : wr.cell? ⟨g, 1, none⟩ = some (.slice A0_1 l0_1.length c0_1) := (blk_cell BK186.out 1).trans rfl
                        have hcz16_2 : wr.cell? ⟨g, 2, none⟩ = some V2_ := (blk_cell BK186.out 2).trans rfl
                        have hfz16_0 := blk_frozen BK186.out 0
                        have hfz16_1 := blk_frozen BK186.out 1
                        have hfz16_2 := blk_frozen BK186.out 2
                        have p190 : 0 ≤ (a1 : Int) := of_decide_eq_true (by first | (with_reducible assumption) | assumption)
                        have q190 : a1 < (l0_1.length : Int) := of_decide_eq_true (by first | (with_reducible assumption) | assumption)
                        obtain ⟨ad190, A190_0, c190_0, e190, hx190_0, hl190_0, hi190_0⟩ := at_L1 HR0_1.out a1 p190 q190
                        cases e190
                        replace hx190_0 := (HB.out.cell (World.block_lt_of_cell? w _ hx190_0)).trans hx190_0
                        have HR190_0 := Aside0.mk hi190_0
                        have HC190_0 := Aside0.mk hl190_0
                        clear hi190_0 hl190_0
                        replace p190 := eq_true p190
                        replace q190 := eq_true q190
                        try go_wp2
                        have n0_ := Aside0.mk (Kd.R_drew HO_7.out)
                        have n1_ := Aside0.mk (blk_drew BK186.out)
                        have n2_ := Aside0.mk (below_drew1 HB.out)
                        clear HO_7
                        clear BK186
                        clear HB
                        have HO_7 := n0_
                        have BK186 := n1_
                        have HB := n2_
                        clear n0_ n1_ n2_
                        have p191 : 0 ≤ (a2 : Int) := of_decide_eq_true (by first | (with_reducible assumption) | assumption)
                        have q191 : a2 < (l0_1.length : Int) := of_decide_eq_true (by first | (with_reducible assumption) | assumption)
                        obtain ⟨ad191, A191_0, c191_0, e191, hx191_0, hl191_0, hi191_0⟩ := at_L1 HR0_1.out a2 p191 q191
                        have hw191_0 := hx191_0
                        obtain rfl : ad190 = ad191 := (by injection e191)
                        replace hx191_0 := (HB.out.cell (World.block_lt_of_cell? w _ hx191_0)).trans hx191_0
                        have HR191_0 := Aside0.mk hi191_0
                        have HC191_0 := Aside0.mk hl191_0
                        clear hi191_0 hl191_0
                        replace p191 := eq_true p191
                        replace q191 := eq_true q191
                        have p192 : 0 ≤ (a1 : Int) := of_decide_eq_true (by first | (with_reducible assumption) | assumption)
                        have q192 : a1 < (l0_1.length : Int) := of_decide_eq_true (by first | (with_reducible assumption) | assumption)
                        obtain ⟨ad192, A192_0, c192_0, e192, hx192_0, hl192_0, hi192_0⟩ := at_L1 HR0_1.out a1 p192 q192
                        have hw192_0 := hx192_0
                        obtain rfl : ad190 = ad192 := (by injection e192)
                        replace hx192_0 := (HB.out.cell (World.block_lt_of_cell? w _ hx192_0)).trans hx192_0
                        have HR192_0 := Aside0.mk hi192_0
                        have HC192_0 := Aside0.mk hl192_0
                        clear hi192_0 hl192_0
                        replace p192 := eq_true p192
                        replace q192 := eq_true q192
                        have p193 : 0 ≤ (x8_1 : Int) := of_decide_eq_true (by first | (with_reducible assumption) | assumption)
                        have q193 : x8_1 < ((rd_L1 l0_1 a1).length : Int) := of_decide_eq_true (by first | (with_reducible assumption) | assumption)
                        obtain ⟨ad193, e193, hx193_0⟩ := Kd.at_int HR192_0.out x8_1 p193 q193
                        have hw193_0 := hx193_0
                        cases e193
                        replace hx193_0 := (HB.out.cell (World.block_lt_of_cell? w _ hx193_0)).trans hx193_0
                        replace p193 := eq_true p193
                        replace q193 := eq_true q193
                        have p194 : 0 ≤ ((rd (rd_L1 l0_1 a1) x8_1) : Int) := of_decide_eq_true (by first | (with_reducible assumption) | assumption)
                        have q194 : (rd (rd_L1 l0_1 a1) x8_1) < ((rd_L1 l0_1 a2).length : Int) := of_decide_eq_true (by first | (with_reducible assumption) | assumption)
                        obtain ⟨ad194, e194, hx194_0⟩ := Kd.at_int HR191_0.out (rd (rd_L1 l0_1 a1) x8_1) p194 q194
                        have hw194_0 := hx194_0
                        cases e194
                        replace hx194_0 := (HB.out.cell (World.block_lt_of_cell? w _ hx194_0)).trans hx194_0
                        replace p194 := eq_true p194
                        replace q194 := eq_true q194
                        refine start_ (n := 23) (S := fun w' => w'.cell? ⟨g, 0, none⟩ = some V0_ ∧ w'.cell? ⟨g, 1, none⟩ = some (.slice (some ad190) l0_1.length c0_1) ∧ w'.cell? ⟨g, 2, none⟩ = some V2_ ∧ w'.cell? (ad190.add (a2).toNat) = some (.slice (some ad194) (rd_L1 l0_1 a2).length c191_0) ∧ w'.cell? (ad190.add (a1).toNat) = some (.slice (some ad193) (rd_L1 l0_1 a1).length c192_0) ∧ w'.cell? (ad193.add (x8_1).toNat) = some (.int .i64 (rd (rd_L1 l0_1 a1) x8_1)) ∧ w'.cell? (ad194.add ((rd (rd_L1 l0_1 a1) x8_1)).toNat) = some (.int .i64 (rd (rd_L1 l0_1 a2) (rd (rd_L1 l0_1 a1) x8_1)))) (ds := []) #[false, false, false, false, false, false, false, false, false, false, false, false, false, false, false, false, false, false, false, false, false, false, false] (by kernel_rfl) rfl rfl ⟨(blk_cell BK186.out 0).trans rfl, (blk_cell BK186.out 1).trans rfl, (blk_cell BK186.out 2).trans rfl, ((HB.out.cell (World.block_lt_of_cell? w _ hw191_0)).trans hw191_0), ((HB.out.cell (World.block_lt_of_cell? w _ hw192_0)).trans hw192_0), ((HB.out.cell (World.block_lt_of_cell? w _ hw193_0)).trans hw193_0), ((HB.out.cell (World.block_lt_of_cell? w _ hw194_0)).trans hw194_0)⟩ (fun hHeld => ?_); refine with_tabW spec_l05Maps_product.tab5 spec_l05Maps_product.bits5 (fun HT_ HW_ => ?_)
                        generalize wr.drew = w17 at HO_7 BK186 HB HR191_0 HR192_0 hx191_0 hx192_0 hx193_0 hx194_0 hHeld ⊢
                        refine pure_ (i := 0) (N := some 22) (v := ?_) (a' := ?_) #[true, false, false, false, false, false, false, false, false, false, false, false, false, false, false, false, false, false, false, false, false, false, false] rfl rfl (any_of HT_.out (by kernel_rfl)) (fun _ _ _ h => h) (Or.inl ⟨by rfl, ?_⟩) ?_ ?_
                        rotate_left
                        · intro w'
                          go_simp
                          with_reducible rfl
                        rotate_left
                        · simp only [Act.put, List.setIfInBounds_toArray, List.set_cons_zero, List.set_cons_succ, i64_w, i32_w]
                          rfl
                        refine pure_ (i := 1) (N := some 23) (v := ?_) (a' := ?_) #[true, true, false, false, false, false, false, false, false, false, false, false, false, false, false, false, false, false, false, false, false, false, false] rfl rfl (any_of HT_.out (by kernel_rfl)) (fun _ _ _ h => h) (Or.inl ⟨by rfl, ?_⟩) ?_ ?_
                        rotate_left
                        · intro w'
                          go_simp
                          with_reducible rfl
                        rotate_left
                        · simp only [Act.put, List.setIfInBounds_toArray, List.set_cons_zero, List.set_cons_succ, i64_w, i32_w]
                          rfl
                        refine pure_ (i := 2) (N := some 24) (v := ?_) (a' := ?_) #[true, true, true, false, false, false, false, false, false, false, false, false, false, false, false, false, false, false, false, false, false, false, false] rfl rfl (any_of HT_.out (by kernel_rfl)) (fun _ _ _ h => h) (Or.inl ⟨by rfl, ?_⟩) ?_ ?_
                        rotate_left
                        · intro w'
                          go_simp
                          with_reducible rfl
                        rotate_left
                        · simp only [Act.put, List.setIfInBounds_toArray, List.set_cons_zero, List.set_cons_succ, i64_w, i32_w]
                          rfl
                        refine pure_ (i := 3) (N := some 25) (v := ?_) (a' := ?_) #[true, true, true, true, false, false, false, false, false, false, false, false, false, false, false, false, false, false, false, false, false, false, false] rfl rfl (any_of HT_.out (by kernel_rfl)) (fun _ _ _ h => h) (Or.inl ⟨by rfl, ?_⟩) ?_ ?_
                        rotate_left
                        · intro w'
                          go_simp
                          with_reducible rfl
                        rotate_left
                        · simp only [Act.put, List.setIfInBounds_toArray, List.set_cons_zero, List.set_cons_succ, i64_w, i32_w]
                          rfl
                        refine pure_ (i := 5) (N := some 27) (v := ?_) (a' := ?_) #[true, true, true, true, false, true, false, false, false, false, false, false, false, false, false, false, false, false, false, false, false, false, false] rfl rfl (any_of HT_.out (by kernel_rfl)) (fun _ _ _ h => h) (Or.inl ⟨by rfl, ?_⟩) ?_ ?_
                        rotate_left
                        · intro w'
                          go_simp
                          with_reducible rfl
                        rotate_left
                        · simp only [Act.put, List.setIfInBounds_toArray, List.set_cons_zero, List.set_cons_succ, i64_w, i32_w]
                          rfl
                        refine pure_ (i := 8) (N := some 30) (v := ?_) (a' := ?_) #[true, true, true, true, false, true, false, false, true, false, false, false, false, false, false, false, false, false, false, false, false, false, false] rfl rfl (any_of HT_.out (by kernel_rfl)) (fun _ _ _ h => h) (Or.inl ⟨by rfl, ?_⟩) ?_ ?_
                        rotate_left
                        · intro w'
                          go_simp
                          with_reducible rfl
                        rotate_left
                        · simp only [Act.put, List.setIfInBounds_toArray, List.set_cons_zero, List.set_cons_succ, i64_w, i32_w]
                          rfl
                        refine pure_ (i := 9) (N := some 31) (v := ?_) (a' := ?_) #[true, true, true, true, false, true, false, false, true, true, false, false, false, false, false, false, false, false, false, false, false, false, false] rfl rfl (any_of HT_.out (by kernel_rfl)) (fun _ _ _ h => h) (Or.inl ⟨by rfl, ?_⟩) ?_ ?_
                        rotate_left
                        · intro w'
                          go_simp
                          with_reducible rfl
                        rotate_left
                        · simp only [Act.put, List.setIfInBounds_toArray, List.set_cons_zero, List.set_cons_succ, i64_w, i32_w]
                          rfl
                        refine pure_ (i := 10) (N := some 32) (v := ?_) (a' := ?_) #[true, true, true, true, false, true, false, false, true, true, true, false, false, false, false, false, false, false, false, false, false, false, false] rfl rfl (any_of HT_.out (by kernel_rfl)) (fun _ _ _ h => h) (Or.inl ⟨by rfl, ?_⟩) ?_ ?_
                        rotate_left
                        · intro w'
                          go_simp
                          with_reducible rfl
                        rotate_left
                        · simp only [Act.put, List.setIfInBounds_toArray, List.set_cons_zero, List.set_cons_succ, i64_w, i32_w]
                          rfl
                        refine pure_ (i := 12) (N := some 34) (v := ?_) (a' := ?_) #[true, true, true, true, false, true, false, false, true, true, true, false, true, false, false, false, false, false, false, false, false, false, false] rfl rfl (any_of HT_.out (by kernel_rfl)) (fun _ _ _ h => h) (Or.inl ⟨by rfl, ?_⟩) ?_ ?_
                        rotate_left
                        · intro w'
                          go_simp
                          with_reducible rfl
                        rotate_left
                        · simp only [Act.put, List.setIfInBounds_toArray, List.set_cons_zero, List.set_cons_succ, i64_w, i32_w]
                          rfl
                        refine pure_ (i := 15) (N := some 37) (v := ?_) (a' := ?_) #[true, true, true, true, false, true, false, false, true, true, true, false, true, false, false, true, false, false, false, false, false, false, false] rfl rfl (any_of HT_.out (by kernel_rfl)) (fun _ _ _ h => h) (Or.inl ⟨by rfl, ?_⟩) ?_ ?_
                        rotate_left
                        · intro w'
                          go_simp
                          with_reducible rfl
                        rotate_left
                        · simp only [Act.put, List.setIfInBounds_toArray, List.set_cons_zero, List.set_cons_succ, i64_w, i32_w]
                          rfl
                        refine take_ (i := 4) (N := some 26) (v := ?_) (a' := ?_) #[true, true, true, true, true, true, false, false, true, true, true, false, true, false, false, true, false, false, false, false, false, false, false] rfl rfl (take_ofW HT_.out HW_.out (by kernel_rfl)) (fun _ _ _ h => h) (Or.inl ⟨by rfl, ?_⟩) hHeld ?_ ?_
                        rotate_left
                        · rintro w' ⟨s0, s1, s2, s3, s4, s5, s6⟩
                          go_simp
                          with_reducible rfl
                        rotate_left
                        · simp only [Act.put, List.setIfInBounds_toArray, List.set_cons_zero, List.set_cons_succ, i64_w, i32_w]
                          rfl
                        refine pure_ (i := 6) (N := some 28) (v := ?_) (a' := ?_) #[true, true, true, true, true, true, true, false, true, true, true, false, true, false, false, true, false, false, false, false, false, false, false] rfl rfl (any_of HT_.out (by kernel_rfl)) (fun _ _ _ h => h) (Or.inl ⟨by rfl, ?_⟩) ?_ ?_
                        rotate_left
                        · intro w'
                          go_simp
                          with_reducible rfl
                        rotate_left
                        · simp only [Act.put, List.setIfInBounds_toArray, List.set_cons_zero, List.set_cons_succ, i64_w, i32_w]
                          rfl
                        refine take_ (i := 7) (N := some 29) (v := ?_) (a' := ?_) #[true, true, true, true, true, true, true, true, true, true, true, false, true, false, false, true, false, false, false, false, false, false, false] rfl rfl (take_ofW HT_.out HW_.out (by kernel_rfl)) (fun _ _ _ h => h) (Or.inl ⟨by rfl, ?_⟩) hHeld ?_ ?_
                        rotate_left
                        · rintro w' ⟨s0, s1, s2, s3, s4, s5, s6⟩
                          go_simp
                          with_reducible rfl
                        rotate_left
                        · simp only [Act.put, List.setIfInBounds_toArray, List.set_cons_zero, List.set_cons_succ, i64_w, i32_w]
                          rfl
                        refine take_ (i := 11) (N := some 33) (v := ?_) (a' := ?_) #[true, true, true, true, true, true, true, true, true, true, true, true, true, false, false, true, false, false, false, false, false, false, false] rfl rfl (take_ofW HT_.out HW_.out (by kernel_rfl)) (fun _ _ _ h => h) (Or.inl ⟨by rfl, ?_⟩) hHeld ?_ ?_
                        rotate_left
                        · rintro w' ⟨s0, s1, s2, s3, s4, s5, s6⟩
                          go_simp
                          with_reducible rfl
                        rotate_left
                        · simp only [Act.put, List.setIfInBounds_toArray, List.set_cons_zero, List.set_cons_succ, i64_w, i32_w]
                          rfl
                        refine pure_ (i := 13) (N := some 35) (v := ?_) (a' := ?_) #[true, true, true, true, true, true, true, true, true, true, true, true, true, true, false, true, false, false, false, false, false, false, false] rfl rfl (any_of HT_.out (by kernel_rfl)) (fun _ _ _ h => h) (Or.inl ⟨by rfl, ?_⟩) ?_ ?_
                        rotate_left
                        · intro w'
                          go_simp
                          with_reducible rfl
                        rotate_left
                        · simp only [Act.put, List.setIfInBounds_toArray, List.set_cons_zero, List.set_cons_succ, i64_w, i32_w]
                          rfl
                        refine take_ (i := 14) (N := some 36) (v := ?_) (a' := ?_) #[true, true, true, true, true, true, true, true, true, true, true, true, true, true, true, true, false, false, false, false, false, false, false] rfl rfl (take_ofW HT_.out HW_.out (by kernel_rfl)) (fun _ _ _ h => h) (Or.inl ⟨by rfl, ?_⟩) hHeld ?_ ?_
                        rotate_left
                        · rintro w' ⟨s0, s1, s2, s3, s4, s5, s6⟩
                          go_simp
                          with_reducible rfl
                        rotate_left
                        · simp only [Act.put, List.setIfInBounds_toArray, List.set_cons_zero, List.set_cons_succ, i64_w, i32_w]
                          rfl
                        refine pure_ (i := 16) (N := some 38) (v := ?_) (a' := ?_) #[true, true, true, true, true, true, true, true, true, true, true, true, true, true, true, true, true, false, false, false, false, false, false] rfl rfl (any_of HT_.out (by kernel_rfl)) (fun _ _ _ h => h) (Or.inl ⟨by rfl, ?_⟩) ?_ ?_
                        rotate_left
                        · intro w'
                          go_simp
                          with_reducible rfl
                        rotate_left
                        · simp only [Act.put, List.setIfInBounds_toArray, List.set_cons_zero, List.set_cons_succ, i64_w, i32_w]
                          rfl
                        refine take_ (i := 17) (N := some 39) (v := ?_) (a' := ?_) #[true, true, true, true, true, true, true, true, true, true, true, true, true, true, true, true, true, true, false, false, false, false, false] rfl rfl (take_ofW HT_.out HW_.out (by kernel_rfl)) (fun _ _ _ h => h) (Or.inl ⟨by rfl, ?_⟩) hHeld ?_ ?_
                        rotate_left
                        · rintro w' ⟨s0, s1, s2, s3, s4, s5, s6⟩
                          go_simp
                          with_reducible rfl
                        rotate_left
                        · simp only [Act.put, List.setIfInBounds_toArray, List.set_cons_zero, List.set_cons_succ, i64_w, i32_w]
                          rfl
                        refine pure_ (i := 18) (N := some 40) (v := ?_) (a' := ?_) #[true, true, true, true, true, true, true, true, true, true, true, true, true, true, true, true, true, true, true, false, false, false, false] rfl rfl (any_of HT_.out (by kernel_rfl)) (fun _ _ _ h => h) (Or.inl ⟨by rfl, ?_⟩) ?_ ?_
                        rotate_left
                        · intro w'
                          go_simp
                          with_reducible rfl
                        rotate_left
                        · simp only [Act.put, List.setIfInBounds_toArray, List.set_cons_zero, List.set_cons_succ, i64_w, i32_w]
                          rfl
                        refine take_ (i := 19) (N := some 41) (v := ?_) (a' := ?_) #[true, true, true, true, true, true, true, true, true, true, true, true, true, true, true, true, true, true, true, true, false, false, false] rfl rfl (take_ofW HT_.out HW_.out (by kernel_rfl)) (fun _ _ _ h => h) (Or.inl ⟨by rfl, ?_⟩) hHeld ?_ ?_
                        rotate_left
                        · rintro w' ⟨s0, s1, s2, s3, s4, s5, s6⟩
                          go_simp
                          with_reducible rfl
                        rotate_left
                        · simp only [Act.put, List.setIfInBounds_toArray, List.set_cons_zero, List.set_cons_succ, i64_w, i32_w]
                          rfl
                        refine one_ (i := 20) (N := some 42) #[true, true, true, true, true, true, true, true, true, true, true, true, true, true, true, true, true, true, true, true, true, false, false] rfl rfl (one_of HT_.out (by kernel_rfl)) (by decide) (fun K hK => ?_)
                        refine value_ (w1 := ?_) (v := ?_) (by rfl) rfl ?_ ?_
                        rotate_left 2
                        · go_simp
                          constructor
                          · rfl
                          · rfl
                        refine hK.out _ _ ⟨(blk_cell (blk_alloc BK186.out _) 0).trans rfl, (blk_cell (blk_alloc BK186.out _) 1).trans rfl, (blk_cell (blk_alloc BK186.out _) 2).trans rfl, (World.cell?_alloc_lt _ _ _ (World.block_lt_of_cell? _ _ (((HB.out.cell (World.block_lt_of_cell? w _ hw191_0)).trans hw191_0)))).trans (((HB.out.cell (World.block_lt_of_cell? w _ hw191_0)).trans hw191_0)), (World.cell?_alloc_lt _ _ _ (World.block_lt_of_cell? _ _ (((HB.out.cell (World.block_lt_of_cell? w _ hw192_0)).trans hw192_0)))).trans (((HB.out.cell (World.block_lt_of_cell? w _ hw192_0)).trans hw192_0)), (World.cell?_alloc_lt _ _ _ (World.block_lt_of_cell? _ _ (((HB.out.cell (World.block_lt_of_cell? w _ hw193_0)).trans hw193_0)))).trans (((HB.out.cell (World.block_lt_of_cell? w _ hw193_0)).trans hw193_0)), (World.cell?_alloc_lt _ _ _ (World.block_lt_of_cell? _ _ (((HB.out.cell (World.block_lt_of_cell? w _ hw194_0)).trans hw194_0)))).trans (((HB.out.cell (World.block_lt_of_cell? w _ hw194_0)).trans hw194_0))⟩ (fun hHeld => ?_)
                        clear hK K
                        refine norm_ (a' := ?_) ?_ ?_
                        rotate_left
                        · show Act.put _ (some 42) _ = _
                          simp only [Act.put, List.setIfInBounds_toArray, List.set_cons_zero, List.set_cons_succ, i64_w, i32_w]
                          rfl
                        refine one_ (i := 21) (N := some 43) #[true, true, true, true, true, true, true, true, true, true, true, true, true, true, true, true, true, true, true, true, true, true, false] rfl rfl (one_of HT_.out (by kernel_rfl)) (by decide) (fun K hK => ?_)
                        refine Kd.R_append_step (Kd.int .i64) (w0 := w) w.heap.size (by rfl) (.tmp 22) (.tmp 42) 48 2 (.int .i64 0) 8 rfl Try.underlying48 info2 rfl (by decide) (by omega) u7 x7_1 (rd (rd_L1 l0_1 a2) (rd (rd_L1 l0_1 a1) x8_1)) [.int .i64 (rd (rd_L1 l0_1 a2) (rd (rd_L1 l0_1 a1) x8_1))] (fun _ => True) (fun _ => False) rfl rfl ?aP (fun _ hk => hk.elim) ?aF ?aO ?aB ?aS ?aL ?_
                        (case aP => exact rfl)
                        (case aB => exact (by repeat (first | (with_reducible first | exact HB.out | apply below_alloc | apply pw_below_drewN | apply below_drew1 | refine below_set ?_ GE186.out) | exact HB.out)))
                        (case aF => exact (fun _ _ => trivial))
                        (case aO => exact (by (with_reducible repeat (first | apply Kd.R_alloc | apply Kd.R_drewN | apply Kd.R_drew)); exact HO_7.out))
                        (case aS => exact (below_size (by repeat (first | (with_reducible first | exact HB.out | apply below_alloc | apply pw_below_drewN | apply below_drew1 | refine below_set ?_ GE186.out) | exact HB.out))))
                        (case aL => have := LMc15.out; omega)
                        intro v196 w18 ho hb hg hat
                        rw [← Ny195.out] at ho
                        have n0_ := Aside0.mk (blk_grown (g := g) (o := .cells #[V0_, .slice (some ad190) l0_1.length c0_1, V2_] 62 (0, 0)) (by (with_reducible repeat (first | refine blk_drewN ?_ _ | refine blk_drew ?_ | refine blk_alloc ?_ _)); exact BK186.out) hg (Kd.R_ne HO_7.out BK186.out (by decide)))
                        have n1_ := Aside0.mk (hb)
                        have n2_ := Aside0.mk (ho)
                        clear BK186
                        clear HB
                        clear HO_7
                        have BK186 := n0_
                        have HB := n1_
                        have HO197 := n2_
                        clear n0_ n1_ n2_
                        clear ho hb hg hat
                        refine hK.out _ _ ⟨(blk_cell BK186.out 0).trans rfl, (blk_cell BK186.out 1).trans rfl, (blk_cell BK186.out 2).trans rfl, ((HB.out.cell (World.block_lt_of_cell? w _ hw191_0)).trans hw191_0), ((HB.out.cell (World.block_lt_of_cell? w _ hw192_0)).trans hw192_0), ((HB.out.cell (World.block_lt_of_cell? w _ hw193_0)).trans hw193_0), ((HB.out.cell (World.block_lt_of_cell? w _ hw194_0)).trans hw194_0)⟩ (fun hHeld => ?_)
                        clear hK K
                        refine norm_ (a' := ?_) ?_ ?_
                        rotate_left
                        · show Act.put _ (some 43) _ = _
                          simp only [Act.put, List.setIfInBounds_toArray, List.set_cons_zero, List.set_cons_succ, i64_w, i32_w]
                          rfl
                        refine pure_ (i := 22) (N := some 7) (v := ?_) (a' := ?_) #[true, true, true, true, true, true, true, true, true, true, true, true, true, true, true, true, true, true, true, true, true, true, true] rfl rfl (any_of HT_.out (by kernel_rfl)) (fun _ _ _ h => h) (Or.inl ⟨by rfl, ?_⟩) ?_ ?_
                        rotate_left
                        · intro w'
                          go_simp
                          with_reducible rfl
                        rotate_left
                        · simp only [Act.put, List.setIfInBounds_toArray, List.set_cons_zero, List.set_cons_succ, i64_w, i32_w]
                          rfl
                        refine done_ (done_of HT_.out (by kernel_rfl)) ?_
                        try go_wp2
                        go_roundg k1
                        case measure => have := HK1.out; omega
                        case rel => exact ⟨(y195), (wrap64 (x8_1 + 1)), (by first | rfl | (simp; done) | (simp [*]; done)), H', ⟨by have := HK1.out; omega⟩, ⟨by (with_reducible repeat (first | apply Kd.R_alloc | apply Kd.R_drewN | apply Kd.R_drew)); exact HO197.out⟩, ⟨by (with_reducible repeat (first | refine blk_drewN ?_ _ | refine blk_drew ?_ | refine blk_alloc ?_ _)); exact BK186.out⟩, ⟨by repeat (first | (with_reducible first | exact HB.out | apply below_alloc | apply pw_below_drewN | apply below_drew1 | refine below_set ?_ GE186.out) | exact HB.out)⟩⟩
                      · rw [if_neg c15] at H
                        exact absurd H (by simp)
                    · rw [if_neg c14] at H
                      exact absurd H (by simp)
                  · rw [if_neg c13] at H
                    exact absurd H (by simp)
                · rw [if_neg c12] at H
                  exact absurd H (by simp)
              · rw [if_neg c11] at H
                exact absurd H (by simp)
            · rw [if_neg c10] at H
              exact absurd H (by simp)
          · rw [if_neg c9] at H
            have c9b0 : decide (x8_1 < ((rd_L1 l0_1 a1).length : Int)) = false := decide_eq_false c9
            clear c9
            replace H := Option.bind_eq_some_iff.mp H
            obtain ⟨t198, A190, H⟩ := H
            replace H : (some t198) = some r := H
            have A19 := Aside0.mk A190
            clear A190
            obtain rfl := Option.some.inj H
            have hcz20_0 : wr.cell? ⟨g, 0, none⟩ = some V0_ := (blk_cell BK186.out 0).trans rfl
            have hcz20_1 : wr.cell? ⟨g, 1, none⟩ = some (.slice A0_1 l0_1.length c0_1) := (blk_cell BK186.out 1).trans rfl
            have hcz20_2 : wr.cell? ⟨g, 2, none⟩ = some V2_ := (blk_cell BK186.out 2).trans rfl
            have hfz20_0 := blk_frozen BK186.out 0
            have hfz20_1 := blk_frozen BK186.out 1
            have hfz20_2 := blk_frozen BK186.out 2
            have p190 : 0 ≤ (a1 : Int) := of_decide_eq_true (by first | (with_reducible assumption) | assumption)
            have q190 : a1 < (l0_1.length : Int) := of_decide_eq_true (by first | (with_reducible assumption) | assumption)
            obtain ⟨ad190, A190_0, c190_0, e190, hx190_0, hl190_0, hi190_0⟩ := at_L1 HR0_1.out a1 p190 q190
            cases e190
            replace hx190_0 := (HB.out.cell (World.block_lt_of_cell? w _ hx190_0)).trans hx190_0
            have HR190_0 := Aside0.mk hi190_0
            have HC190_0 := Aside0.mk hl190_0
            clear hi190_0 hl190_0
            replace p190 := eq_true p190
            replace q190 := eq_true q190
            obtain ⟨Ao21, co21, eo21⟩ := Kd.R_slice HO_7.out
            subst eo21
            go_wp2_with (first | ((with_reducible refine gate_callee (f := 58) rfl ?_); refine goesL_ (some 46) rfl rfl Try.func58 (by kernel_rfl) rfl #[.pointer (some ⟨g, 0, none⟩), .slice Ao21 x7_1.length co21] rfl (by (try simp only [List.map_toArray, List.map_cons, List.map_nil]); first | done | rfl | (simp only [List.length_drop, List.length_take]; rfl)) ?_; (with_reducible refine (spec_l05Maps_find.calls k1 (some ad190) c0_1 l0_1 _ _ x7_1 t198 _ g ?hm0 ?side1 ?side2 ?side3 ?side4 A19.out).mono ?_); (case hm0 => exact (blk_cell (by (with_reducible repeat (first | refine blk_drewN ?_ _ | refine blk_drew ?_ | refine blk_alloc ?_ _)); exact BK186.out) 1).trans rfl); (case side1 => repeat (first | exact (Kd.C_below HR0_1.out HB.out) | (with_reducible refine Kd.C_alloc ?_ _) | (with_reducible refine Kd.C_drewN ?_ _) | (with_reducible refine Kd.C_drew ?_))); (case side2 => exact HC0_1.out); (case side3 => repeat (first | exact (Kd.R_reads' HO_7.out).2.2 | (with_reducible refine Kd.C_alloc ?_ _) | (with_reducible refine Kd.C_drewN ?_ _) | (with_reducible refine Kd.C_drew ?_))); (case side4 => exact (Kd.R_reads' HO_7.out).2.1); rintro e w' ⟨rfl, ⟨nd, rfl⟩⟩; refine ⟨_, rfl, ?_⟩))
            go_ret
            exact ⟨by first | rfl | (simp [errW_none, errW_some] <;> rfl) | (simp [*, errW_none, errW_some] <;> rfl), by repeat (first | (with_reducible first | exact HB.out | apply below_alloc | apply pw_below_drewN | apply below_drew1 | refine below_set ?_ GE186.out) | exact HB.out)⟩
        · rw [if_neg c8] at H
          exact absurd H (by simp)
      · rw [if_neg c7] at H
        exact absurd H (by simp)

end Go.Proofs.Ytefoaikfpegggaa.SpecAll
