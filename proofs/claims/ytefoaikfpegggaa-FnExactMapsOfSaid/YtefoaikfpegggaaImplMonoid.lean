/- What is proved: the contract of impl.monoidOf: it comes to what fin says. Conditions: valid bounds that read as they are said to. -/
import Derived.Test.YtefoaikfpegggaaMapKey
import Derived.Lib.SmallJoins
import Derived.Maps.RangeWalk
namespace Go.Proofs.Ytefoaikfpegggaa.ImplMonoid
open Go.RowKit Go.Proofs.YtefoaikfpegggaaW.PrintWords Go.Proofs.YtefoaikfpegggaaW.PrintLast Go.Proofs.YtefoaikfpegggaaW.PrintMore Go.Proofs.Ytefoaikfpegggaa.Mine Go.Proofs.Ytefoaikfpegggaa.Closures Go.Proofs.Ytefoaikfpegggaa.ValidB Go.Proofs.Ytefoaikfpegggaa.SpecAll Go.Proofs.Ytefoaikfpegggaa.PureKit Go.Proofs.Ytefoaikfpegggaa.PureMaps Go.Proofs.Ytefoaikfpegggaa.PureSpec Go.Proofs.Ytefoaikfpegggaa.ImplSame Go.Proofs.Ytefoaikfpegggaa.MapKey
attribute [local go_sem] max2_int min2_int max_two min_two max_three min_three max_four min_four
set_option linter.unusedVariables false
set_option linter.unusedSimpArgs false

/-- The monoid at block gm, its map at block gM. -/
structure Mon (x : List (List Int)) (B g gm gM : Nat) (vm vw : Value) (W : World) (st : St) : Prop where
  box : W.heap[gm]? = some (.cells #[.pointer (some ⟨g, 0, none⟩), vm, vw, .map (some gM)] 70 (0, 0))
  ge : B ≤ gm ∧ B ≤ gM
  maps : Kd.R K4 80 W B (fun _ => True) vm st.1
  words : Kd.R Kd.string 9 W B (fun _ => True) vw st.2
  map : ∃ D : DataW Unit, W.ownsMap Try.prog 80 (plainElem Try.prog 2) gM st.1.length D ∧ DOk x D st.1

theorem Mon.below {x : List (List Int)} {B g gm gM : Nat} {vm vw : Value} {W W' : World} {st : St} (h : Mon x B g gm gM vm vw W st) (hb : Below W.heap.size W W') : Mon x B g gm gM vm vw W' st where
  box := blk_below h.box hb
  ge := h.ge
  maps := Kd.R_below h.maps hb
  words := Kd.R_below h.words hb
  map := by
    obtain ⟨D, h1, h2⟩ := h.map
    exact ⟨D, map_below h1 hb, h2⟩
theorem Mon.alloc {x : List (List Int)} {B g gm gM : Nat} {vm vw : Value} {W : World} {st : St} (h : Mon x B g gm gM vm vw W st) (o : Obj) : Mon x B g gm gM vm vw (W.alloc o) st := h.below (below_alloc (Below.refl _ _) o)
theorem Mon.drewN {x : List (List Int)} {B g gm gM : Nat} {vm vw : Value} {W : World} {st : St} (h : Mon x B g gm gM vm vw W st) (m : Nat) : Mon x B g gm gM vm vw (W.drewN m) st := h.below (pw_below_drewN (Below.refl _ _) m)
theorem Mon.drew {x : List (List Int)} {B g gm gM : Nat} {vm vw : Value} {W : World} {st : St} (h : Mon x B g gm gM vm vw W st) : Mon x B g gm gM vm vw W.drew st := h.below (below_drew (Below.refl _ _))
def mo14.T14 : Bool × List (List Nat × List Nat) := (true, [([], []), ([], []), ([], []), ([2], [2]), ([3], [3]), ([4], [4]), ([], []), ([6], [6]), ([5, 7], [5, 7]), ([], []), ([9], [9]), ([10], [10]), ([11], [11]), ([], []), ([13], [13]), ([14], [14]), ([15], [15]), ([], []), ([16, 17], [16, 17]), ([18], [18]), ([], []), ([20], [20]), ([21], [21]), ([19, 22], [19, 22]), ([23], [23]), ([12, 24, 8], [12, 24]), ([0, 0, 2, 3, 4, 5, 6, 7, 8, 12, 16, 19, 25], [0]), ([26, 0, 2, 3, 4, 5, 6, 7, 8, 12, 16, 19, 25], [26]), ([27, 8, 25, 0, 2, 3, 4, 5, 6, 7, 8, 12, 16, 19, 25], [8, 27]), ([1, 0, 1, 2, 3, 4, 5, 6, 7, 8, 9, 10, 11, 12, 13, 14, 15, 16, 17, 18, 19, 20, 21, 22, 23, 24, 25, 26, 27, 28], [1]), ([29, 0, 1, 2, 3, 4, 5, 6, 7, 8, 9, 10, 11, 12, 13, 14, 15, 16, 17, 18, 19, 20, 21, 22, 23, 24, 25, 26, 27, 28], [29]), ([30, 25, 28, 0, 1, 2, 3, 4, 5, 6, 7, 8, 9, 10, 11, 12, 13, 14, 15, 16, 17, 18, 19, 20, 21, 22, 23, 24, 25, 26, 27, 28], [25, 30])])
def mo14.B14 : List Nat := [0, 0, 0, 4, 12, 28, 0, 64, 252, 0, 512, 1536, 3584, 0, 8192, 24576, 57344, 0, 253952, 516096, 0, 1048576, 3145728, 8380416, 16769024, 33554428, 67108861, 134217725, 268435453, 536870911, 1073741823, 2147483647]
theorem mo14.tab14 : rtab .any (opsOf Try.f45 14) = mo14.T14 := by kernel_rfl
theorem mo14.bits14 : waitsOk mo14.T14.2 mo14.B14 = true := by kernel_rfl
/-- What the call leaves. -/
def Post (x : List (List Int)) (g : Nat) (w : World) (e : Ending) (w' : World) : Prop :=
  (fin x = none ∧ e = .returned (.tuple #[.pointer none, .bool false]) ∧ Below w.heap.size w w') ∨
  (∃ (st : St) (gm gM : Nat) (vm vw : Value), fin x = some st ∧ e = .returned (.tuple #[.pointer (some ⟨gm, 0, none⟩), .bool true]) ∧ Mon x w.heap.size g gm gM vm vw w' st ∧ Below w.heap.size w w')
/-- The four letters' row. -/
def let4 : Array Value := #[.int .u8 97, .int .u8 98, .int .u8 99, .int .u8 100]
theorem let4_get {j : Nat} (h : j < 4) : let4[j]? = some (.int .u8 (97 + (j : Int))) := by
  have : j = 0 ∨ j = 1 ∨ j = 2 ∨ j = 3 := by omega
  rcases this with rfl | rfl | rfl | rfl <;> rfl
theorem R_slice' {α : Type} {d : Kd α} {e base : Nat} {ok : Nat → Prop} {w : World} {v : Value} {xs : List α} (h : d.R e w base ok v xs) (hp : 0 < xs.length) : ∃ gr c, v = .slice (some ⟨gr, 0, none⟩) xs.length c := by
  obtain ⟨gr, c, e, _⟩ := Kd.R_form h hp
  exact ⟨gr, c, e⟩

set_option maxHeartbeats 8000000 in
set_option maxRecDepth 100000 in
theorem monoid_calls (g : Nat) (A1 : Option Addr) (c1 : Nat) (a : Int) (x y : List (List Int)) (w : World) (hg : w.cell? ⟨g, 1, none⟩ = some (.slice A1 x.length c1)) (hC : Kd.C (Kd.slice 2 (Kd.int .i64)) w A1 x.length x) (V : Valid a x y) :
    Calls Try.prog 45 #[.pointer (some ⟨g, 0, none⟩)] w (Post x g w) := by
  have hmm := @run_makeMap Try.prog
  have h1 := V.len.1
  have h4 := V.len.2
  have HV := Aside0.mk V
  have HC := Aside0.mk hC
  have HG := Aside0.mk hg
  obtain ⟨I0, hI0⟩ : ∃ l, l = idm x := ⟨_, rfl⟩
  have HI := Aside0.mk hI0
  have HS : ∀ (w' : World), Below w.heap.size w w' → Calls Try.prog 59 #[.pointer (some ⟨g, 0, none⟩)] w' fun e w2 => e = .returned (.agg #[.int .i64 (rd I0 0), .int .i64 (rd I0 1), .int .i64 (rd I0 2), .int .i64 (rd I0 3)]) ∧ Below w'.heap.size w' w2 := fun w' hb => hI0 ▸ same_calls g A1 c1 x w' (pw_cell_below hb hg) h1 h4
  clear V hg hC hI0
  go_enter Try.func45, Try.ntmps45
  go_wp2_with fail
  refine (HS _ (Below.refl _ _)).mono ?_
  rintro e w1 ⟨rfl, hb1⟩
  have HB := Aside0.mk hb1
  clear hb1
  go_wp2_with (first | ((with_reducible refine gate_dst (N := 14) rfl ?_); refine Kd.R_lit K4 (w0 := w) w.heap.size 80 ?hg (N := 14) ?hd (xs := [I0]) (inner := cs4 I0) (ok := fun _ => True) (okp := fun _ => True) ?hr ?hp (fun _ hk => hk) trivial HB.out HB.out.size (by simp) ?_; (case hd => rfl); (case hg => rfl); (case hr => first | (go_simp; done) | (go_simp; rfl)); (case hp => exact K4_one _ _ _ _); intro v14 w2 ho2 hb2 hg2 hn2; clear HB hg2 hn2; have HB := Aside0.mk hb2; have HM := Aside0.mk ho2; clear hb2 ho2) | ((with_reducible refine gate_dst (N := 15) rfl ?_); refine Kd.R_lit Kd.string (w0 := w) w.heap.size 9 ?hg (N := 15) ?hd (xs := [(⟨#[]⟩ : ByteArray)]) (inner := [.string (⟨#[]⟩ : ByteArray)]) (ok := fun _ => True) (okp := fun _ => True) ?hr ?hp (fun _ hk => hk) trivial HB.out HB.out.size (by simp) ?_; (case hd => rfl); (case hg => rfl); (case hr => first | (go_simp; done) | (go_simp; rfl)); (case hp => exact Reps.one (show Kd.M Kd.string _ _ _ (⟨#[]⟩ : ByteArray) [.string (⟨#[]⟩ : ByteArray)] from rfl) (Reps.none _ _)); intro v15 w3 ho3 hb3 hg3 hn3; have n0_ := Aside0.mk (Kd.R_grown HM.out hg3 (fun _ _ => by simp)); clear HB HM hg3 hn3; have HM := n0_; clear n0_; have HB := Aside0.mk hb3; have HW := Aside0.mk ho3; clear hb3 ho3))
  have HMap := Aside0.mk (World.ownsMap_made (H := Unit) w3 Try.prog 80 (plainElem Try.prog 2))
  have HGE := Aside0.mk HB.out.size
  have n0_ := Aside0.mk (below_alloc HB.out (.map #[] 0))
  have n1_ := Aside0.mk (Kd.R_alloc HM.out (.map #[] 0))
  have n2_ := Aside0.mk (Kd.R_alloc HW.out (.map #[] 0))
  clear HB HM HW
  have HB := n0_
  have HM := n1_
  have HW := n2_
  clear n0_ n1_ n2_
  refine (HS _ HB.out).mono ?_
  rintro e w4 ⟨rfl, hb4⟩
  have n0_ := Aside0.mk (below_step HB.out hb4)
  have n1_ := Aside0.mk (Kd.R_below HM.out hb4)
  have n2_ := Aside0.mk (Kd.R_below HW.out hb4)
  have n3_ := Aside0.mk (map_below HMap.out hb4)
  clear HB HM HW HMap hb4
  have HB := n0_
  have HM := n1_
  have HW := n2_
  have HMap := n3_
  clear n0_ n1_ n2_ n3_
  obtain ⟨gM, hgM⟩ : ∃ q, q = w3.heap.size := ⟨_, rfl⟩
  rw [← hgM] at HMap HGE ⊢
  clear hgM hmm
  obtain ⟨A14, c14, e14⟩ := Kd.R_slice HM.out
  obtain ⟨A15, c15, e15⟩ := Kd.R_slice HW.out
  subst e14
  subst e15
  have hu70 := Try.underlying70
  go_wp2_with (first | ((with_reducible refine gate_ (.insert 68 (.tmp 16) (.tmp 18) (.const (.int .i64 0))) rfl ?_); refine wpList_insert rfl (.tmp 16) (.tmp 18) (.const (.int .i64 0)) 68 rfl 80 2 law Try.underlying68 (plainElem Try.prog 2) gM 0 (.map []) rfl HMap.out (by decide) (arr4 I0) (.int .i64 0) (kl4 I0) rfl rfl ?key (.lit (.int .i64 0)) [] (plainElem_int Try.underlying2 (by decide)) ?_; (case key => rw [HI.out]; exact keyGood h4 idm_good); intro w5 hown hturn; have n0_ := Aside0.mk (Below.grown HB.out hturn.grown HB.out.size (fun k hk => by obtain rfl := Option.some.inj hk; exact HGE.out)); have n1_ := Aside0.mk (R_turned HM.out rfl hturn); have n2_ := Aside0.mk (R_turned HW.out rfl hturn); clear HB HM HW HMap hturn; have HB := n0_; have HM := n1_; have HW := n2_; have HMap := Aside0.mk hown; clear n0_ n1_ n2_ hown) | ((with_reducible refine gate_dst (N := 21) rfl ?_); refine box_event ?hg (N := 21) ?hd (cs := #[.pointer (some ⟨g, 0, none⟩), .slice A14 [I0].length c14, .slice A15 [(⟨#[]⟩ : ByteArray)].length c15, .map (some gM)]) (t := 70) ?hr ?_; (case hd => rfl); (case hg => rfl); (case hr => first | (go_simp; done) | (go_simp; rfl)); intro gm hgm w6 hbox hb; have n0_ := Aside0.mk (below_step HB.out hb); have n1_ := Aside0.mk (Kd.R_below HM.out hb); have n2_ := Aside0.mk (Kd.R_below HW.out hb); have n3_ := Aside0.mk (map_below HMap.out hb); have n4_ := Aside0.mk hbox; have n5_ := Aside0.mk (by rw [hgm]; exact HB.out.size : w.heap.size ≤ gm); clear HB HM HW HMap hb hbox hgm; have HB := n0_; have HM := n1_; have HW := n2_; have HMap := n3_; have HBox := n4_; have HGm := n5_; clear n0_ n1_ n2_ n3_ n4_ n5_))
  have HMon := Aside0.mk (show Mon x w.heap.size g gm gM (.slice A14 [I0].length c14) (.slice A15 [(⟨#[]⟩ : ByteArray)].length c15) w6 (rounds x 0) from ⟨HBox.out, ⟨HGm.out, HGE.out⟩, by have h := HM.out; rw [HI.out] at h; exact h, HW.out, _, HMap.out, by have h := dok_put (x := x) h4 dok_empty (by simp) (m := idm x) idm_good rfl; rw [HI.out]; exact h⟩)
  clear HM HW HMap HBox HGm HGE
  go_loopw [5] (fun v5 wr => ∃ (i : Nat) (vm vw : Value), v5 = .int .i64 i ∧ Aside0 (Hd x i) ∧ Aside0 (Mon x w.heap.size g gm gM vm vw wr (rounds x i)) ∧ Aside0 (Below w.heap.size w wr)) (fun v _ => 41 - (intOf v).toNat)
  case atStart => exact ⟨0, _, _, rfl, ⟨hd_zero⟩, HMon, HB⟩
  case round =>
    clear HMon HB
    obtain ⟨i, vm, vw, rfl, HH, HMon, HB⟩ := hrel
    have HInv := Aside0.mk (inv_rounds HV.out i HH.out)
    have hle := hd_le40 HH.out
    obtain ⟨st, hst⟩ : ∃ s, s = rounds x i := ⟨_, rfl⟩
    rw [← hst] at HMon HInv hle
    have HSt := Aside0.mk hst
    obtain ⟨gr, cr, evm⟩ := R_slice' HMon.out.maps HInv.out.pos
    subst evm
    have hi40 := hle.1
    have hl40 := hle.2
    clear hle hst
    have hc1 : wr.cell? ⟨gm, 1, none⟩ = some (.slice (some ⟨gr, 0, none⟩) st.1.length cr) := (blk_cell HMon.out.box 1).trans rfl
    by_cases hlt : i < st.1.length
    · have hconv := Lib.run_convert_bytes_const (P := Try.prog) wr 57 5 #[.int .u8 97, .int .u8 98, .int .u8 99, .int .u8 100] 4 4 Try.underlying57 Try.underlying5
      simp only [List.size_toArray, List.length_cons, List.length_nil, Nat.zero_add, Nat.reduceAdd] at hconv
      go_wp2_with fail
      have HLet := Aside0.mk (show (wr.alloc (.cells #[.int .u8 97, .int .u8 98, .int .u8 99, .int .u8 100] 5 (4, 5))).heap[wr.heap.size]? = some (.cells let4 5 (4, 5)) from blk_new wr _)
      have n0_ := Aside0.mk (HMon.out.alloc (.cells #[.int .u8 97, .int .u8 98, .int .u8 99, .int .u8 100] 5 (4, 5)))
      have n1_ := Aside0.mk (below_alloc HB.out (.cells #[.int .u8 97, .int .u8 98, .int .u8 99, .int .u8 100] 5 (4, 5)))
      clear HMon HB hconv hc1
      have HMon := n0_
      have HB := n1_
      clear n0_ n1_
      obtain ⟨gL, hgL⟩ : ∃ q, q = wr.heap.size := ⟨_, rfl⟩
      rw [← hgL] at HLet ⊢
      clear hgL
      go_loopw [34] (fun v34 W => ∃ (j : Nat) (vm vw : Value), v34 = .int .i64 j ∧ Aside0 (j ≤ 4) ∧ Aside0 ((rnd x i st j).1.length ≤ 40) ∧ Aside0 (Mon x w.heap.size g gm gM vm vw W (rnd x i st j)) ∧ Aside0 (W.heap[gL]? = some (.cells let4 5 (4, 5))) ∧ Aside0 (Below w.heap.size w W)) (fun v _ => 4 - (intOf v).toNat)
      case atStart => exact ⟨0, _, _, rfl, ⟨by omega⟩, ⟨hl40⟩, HMon, HLet, HB⟩
      case round =>
        clear HMon HB HLet
        obtain ⟨j, vm, vw, rfl, HJ, HL, HMon, HLet, HB⟩ := hrel
        have hJ := HJ.out
        by_cases hj : j < 4
        · have HInvJ := Aside0.mk (inv_rnd HV.out HInv.out hlt j hJ)
          have HPre := Aside0.mk (rnd_pre x i st j).length_le
          have HNext := Aside0.mk (show rnd x i st (j + 1) = addl x i (rnd x i st j) j from rfl)
          obtain ⟨sj, hsj⟩ : ∃ s, s = rnd x i st j := ⟨_, rfl⟩
          rw [← hsj] at HL HMon HInvJ HPre HNext
          have HSj := Aside0.mk hsj
          clear hsj
          obtain ⟨gr2, cr2, evm⟩ := R_slice' HMon.out.maps HInvJ.out.pos
          subst evm
          have hij : i < sj.1.length := Nat.lt_of_lt_of_le hlt HPre.out
          have hl40j : sj.1.length ≤ 40 := HL.out
          have hx7 : wr.cell? ⟨gL, j, none⟩ = some (.int .u8 (97 + (j : Int))) := (cell_any HLet.out j).trans (let4_get hj)
          have hc1 : wr.cell? ⟨gm, 1, none⟩ = some (.slice (some ⟨gr2, 0, none⟩) sj.1.length cr2) := (blk_cell HMon.out.box 1).trans rfl
          obtain ⟨mi, hmi⟩ : ∃ m, m = rdL sj.1 i := ⟨_, rfl⟩
          have hrow : ∀ q : Nat, q < 4 → wr.cell? ⟨gr2, i * 4 + q, none⟩ = some (.int .i64 (rd mi q)) := by
            obtain ⟨ad, e, hq⟩ := at_K4 (Kd.R_reads' HMon.out.maps).2.2 (i : Int) (by omega) (by omega)
            cases e
            intro q hq4
            have h := hq q hq4
            rw [add_plain, Int.toNat_natCast, ← hmi] at h
            exact h
          have hr0 : wr.cell? ⟨gr2, i * 4, none⟩ = some (.int .i64 (rd mi 0)) := hrow 0 (by omega)
          have hr1 : wr.cell? ⟨gr2, i * 4 + 1, none⟩ = some (.int .i64 (rd mi 1)) := hrow 1 (by omega)
          have hr2 : wr.cell? ⟨gr2, i * 4 + 2, none⟩ = some (.int .i64 (rd mi 2)) := hrow 2 (by omega)
          have hr3 : wr.cell? ⟨gr2, i * 4 + 3, none⟩ = some (.int .i64 (rd mi 3)) := hrow 3 (by omega)
          have HMi := Aside0.mk hmi
          clear hrow hmi
          have hjb : decide ((j : Int) < 4) = true := decide_eq_true (by omega)
          go_wp2_with fail
          obtain ⟨mN, hmN⟩ : ∃ m, m = bh x mi j := ⟨_, rfl⟩
          have hbh : Calls Try.prog 60 #[.pointer (some ⟨g, 0, none⟩), .agg #[.int .i64 (rd mi 0), .int .i64 (rd mi 1), .int .i64 (rd mi 2), .int .i64 (rd mi 3)], .int .u8 (97 + (j : Int))] wr fun e w' => e = .returned (.agg #[.int .i64 (rd mN 0), .int .i64 (rd mN 1), .int .i64 (rd mN 2), .int .i64 (rd mN 3)]) ∧ Below wr.heap.size wr w' :=
            hmN ▸ behind_calls g A1 c1 x mi (97 + (j : Int)) j wr (pw_cell_below HB.out HG.out) (Kd.C_below HC.out HB.out) h1 h4 HV.out.rowlen (HMi.out ▸ HInvJ.out.good _ (rdL_mem (by omega) (by omega))) (by omega) (by omega) (by omega)
          have HMN := Aside0.mk hmN
          clear hmN hx7 hc1 hr0 hr1 hr2 hr3
          refine hbh.mono ?_
          clear hbh
          rintro e w1 ⟨rfl, hb1⟩
          have n0_ := Aside0.mk (HMon.out.below hb1)
          have n1_ := Aside0.mk (below_step HB.out hb1)
          have n2_ := Aside0.mk (blk_below HLet.out hb1)
          clear HMon HB HLet hb1
          have HMon := n0_
          have HB := n1_
          have HLet := n2_
          clear n0_ n1_ n2_
          go_wp2_with fail
          obtain ⟨oN, hoN⟩ : ∃ o : Obj, o = .cells #[.int .i64 (rd mN 0), .int .i64 (rd mN 1), .int .i64 (rd mN 2), .int .i64 (rd mN 3)] 80 := ⟨_, rfl⟩
          have hN : (w1.alloc oN).heap[w1.heap.size]? = some oN := blk_new _ _
          have hgr : gr2 < w1.heap.size := Kd.R_lt HMon.out.maps gr2 (by simp [Value.ownBlock])
          have n0_ := Aside0.mk (HMon.out.alloc oN)
          have n1_ := Aside0.mk (below_alloc HB.out oN)
          have n2_ := Aside0.mk (blk_alloc HLet.out oN)
          clear HMon HB HLet
          have HMon := n0_
          have HB := n1_
          have HLet := n2_
          clear n0_ n1_ n2_
          rw [← hoN]
          generalize w1.alloc oN = w2 at hN HMon HB HLet ⊢
          rw [hoN] at hN
          have HN := Aside0.mk hN
          clear hN hoN
          obtain ⟨gN, hgN⟩ : ∃ q, q = w1.heap.size := ⟨_, rfl⟩
          rw [← hgN] at HN hgr ⊢
          clear hgN
          have hn0 : w2.cell? ⟨gN, 0, none⟩ = some (.int .i64 (rd mN 0)) := (blk_cell HN.out 0).trans rfl
          have hn1 : w2.cell? ⟨gN, 1, none⟩ = some (.int .i64 (rd mN 1)) := (blk_cell HN.out 1).trans rfl
          have hn2 : w2.cell? ⟨gN, 2, none⟩ = some (.int .i64 (rd mN 2)) := (blk_cell HN.out 2).trans rfl
          have hn3 : w2.cell? ⟨gN, 3, none⟩ = some (.int .i64 (rd mN 3)) := (blk_cell HN.out 3).trans rfl
          have hc3 : w2.cell? ⟨gm, 3, none⟩ = some (.map (some gM)) := (blk_cell HMon.out.box 3).trans rfl
          have HGN := Aside0.mk (show PureMaps.Good x mN from HMN.out ▸ bh_good HV.out (HMi.out ▸ HInvJ.out.good _ (rdL_mem (by omega) (by omega))) (by omega))
          obtain ⟨D, hD, hDok⟩ := HMon.out.map
          obtain ⟨cv, hrun⟩ := look_run h4 hD hDok HGN.out
          by_cases hmem : mem sj.1 mN = true
          · have HE := Aside0.mk (show rnd x i st (j + 1) = sj by rw [HNext.out]; exact addl_known (by rw [← HMi.out, ← HMN.out]; exact hmem))
            simp only [hmem] at hrun
            go_quiet (fail)
            go_wp2_with fail
            go_roundw
            case measure => simp [intOf]; omega
            case rel => exact ⟨j + 1, _, _, by go_num, ⟨by omega⟩, ⟨by rw [HE.out]; exact hl40j⟩, ⟨by rw [HE.out]; exact HMon.out.drewN _⟩, ⟨HLet.out⟩, ⟨pw_below_drewN HB.out _⟩⟩
          · replace hmem := Bool.eq_false_iff.2 hmem
            have HE := Aside0.mk (show rnd x i st (j + 1) = (sj.1 ++ [mN], sj.2 ++ [rdOf ByteArray.empty sj.2 i ++ lett j]) by rw [HNext.out, addl_new (by rw [← HMi.out, ← HMN.out]; exact hmem), ← HMi.out, ← HMN.out])
            have HMem := Aside0.mk hmem
            have hc1 : w2.cell? ⟨gm, 1, none⟩ = some (.slice (some ⟨gr2, 0, none⟩) sj.1.length cr2) := (blk_cell HMon.out.box 1).trans rfl
            simp only [hmem] at hrun
            clear hmem
            by_cases h40 : sj.1.length = 40
            · have hb40 : ((sj.1.length : Int) == 40) = true := by rw [h40]; rfl
              have HF := Aside0.mk (show fin x = none from fin_lim HH.out (by rw [← HSt.out]; exact hlt) (by
                have h5 := (rnd_pre2 x i st (j + 1) (4 - (j + 1))).length_le
                rw [show j + 1 + (4 - (j + 1)) = 4 by omega, HE.out, List.length_append, List.length_singleton] at h5
                show 40 < (rnd x i (rounds x i) 4).1.length
                rw [← HSt.out]
                omega))
              clear h40
              go_quiet (fail)
              go_wp2_with fail
              go_ret2
              exact .inl ⟨HF.out, rfl, pw_below_drewN HB.out _⟩
            · have hb40 : ((sj.1.length : Int) == 40) = false := by rw [beq_eq_false_iff_ne]; omega
              have hl39 : sj.1.length ≤ 39 := by omega
              clear h40
              go_quiet (fail)
              go_wp2_with fail
              have HD := Aside0.mk (map_below hD (pw_below_drewN (Below.refl _ _) nq))
              have n0_ := Aside0.mk (HMon.out.drewN nq)
              have n1_ := Aside0.mk (pw_below_drewN HB.out nq)
              have n2_ := Aside0.mk (show (w2.drewN nq).heap[gL]? = some (.cells let4 5 (4, 5)) from HLet.out)
              have n3_ := Aside0.mk (show (w2.drewN nq).heap[gN]? = some (.cells #[.int .i64 (rd mN 0), .int .i64 (rd mN 1), .int .i64 (rd mN 2), .int .i64 (rd mN 3)] 80 (0, 0)) from HN.out)
              clear HMon HB HLet HN hn0 hn1 hn2 hn3 hc3 hc1 hrun hD
              generalize w2.drewN nq = w3 at n0_ n1_ n2_ n3_ HD ⊢
              refine still_tail 10 (by kernel_rfl) (by kernel_rfl) (fun w4 hw4 => ?_)
              have HMon := Aside0.mk (hw4 ▸ n0_.out.drew)
              have HB := Aside0.mk (hw4 ▸ below_drew1 n1_.out)
              have HLet := Aside0.mk (show w4.heap[gL]? = some (.cells let4 5 (4, 5)) from hw4 ▸ n2_.out)
              have HN := Aside0.mk (show w4.heap[gN]? = some (.cells #[.int .i64 (rd mN 0), .int .i64 (rd mN 1), .int .i64 (rd mN 2), .int .i64 (rd mN 3)] 80 (0, 0)) from hw4 ▸ n3_.out)
              have HD4 := Aside0.mk (show w4.ownsMap Try.prog 80 (plainElem Try.prog 2) gM sj.1.length D from hw4 ▸ map_below HD.out (below_drew (Below.refl _ _)))
              clear n0_ n1_ n2_ n3_ HD hw4
              have hn0 : w4.cell? ⟨gN, 0, none⟩ = some (.int .i64 (rd mN 0)) := (blk_cell HN.out 0).trans rfl
              have hn1 : w4.cell? ⟨gN, 1, none⟩ = some (.int .i64 (rd mN 1)) := (blk_cell HN.out 1).trans rfl
              have hn2 : w4.cell? ⟨gN, 2, none⟩ = some (.int .i64 (rd mN 2)) := (blk_cell HN.out 2).trans rfl
              have hn3 : w4.cell? ⟨gN, 3, none⟩ = some (.int .i64 (rd mN 3)) := (blk_cell HN.out 3).trans rfl
              have hc3 : w4.cell? ⟨gm, 3, none⟩ = some (.map (some gM)) := (blk_cell HMon.out.box 3).trans rfl
              have hc1 : w4.cell? ⟨gm, 1, none⟩ = some (.slice (some ⟨gr2, 0, none⟩) sj.1.length cr2) := (blk_cell HMon.out.box 1).trans rfl
              simp only [List.take_succ_cons, List.take_zero, List.drop_succ_cons, List.drop_zero]
              repeat still_step
              refine wpStill_nil ?_
              refine wpList_mapUpdate_in w4 rfl (.tmp 67) (.tmp 68) (.tmp 73) 68 rfl 80 2 law Try.underlying68 (plainElem Try.prog 2) gM sj.1.length D rfl HD4.out (by unfold maxLen; omega) (arr4 mN) (.int .i64 sj.1.length) (kl4 mN) rfl rfl (keyGood h4 HGN.out) (.lit (.int .i64 sj.1.length)) [] (plainElem_int Try.underlying2 (WalkArith.wf_i64 (by omega))) ?_
              intro w5 hown hturn
              have n0_ := Aside0.mk (Below.grown HB.out hturn.grown HB.out.size (fun k hk => by obtain rfl := Option.some.inj hk; exact HMon.out.ge.2))
              have RM := Aside0.mk (R_turned HMon.out.maps rfl hturn)
              have RW := Aside0.mk (R_turned HMon.out.words rfl hturn)
              have BX := Aside0.mk (blk_turned HMon.out.box hturn)
              have LT := Aside0.mk (any_turned HLet.out hturn)
              have NX := Aside0.mk (blk_turned HN.out hturn)
              have MP := Aside0.mk hown
              have GE := Aside0.mk HMon.out.ge
              clear HMon HB HLet HN HD4 hn0 hn1 hn2 hn3 hc3 hc1 hturn hown
              have HB := n0_
              clear n0_
              go_wp2_with fail
              go_frame
              have hl2 : sj.2.length = sj.1.length := HInvJ.out.len
              obtain ⟨gw, cw, evw⟩ := R_slice' RW.out (by rw [hl2]; omega)
              subst evw
              have hij2 : i < sj.2.length := by rw [hl2]; exact hij
              obtain ⟨wi, hwi0⟩ : ∃ s, s = rdOf ByteArray.empty sj.2 i := ⟨_, rfl⟩
              have hwz : wi.size ≤ 40 := by have := HInvJ.out.size i hij; rw [hwi0]; omega
              have hwi : w5.cell? ⟨gw, i, none⟩ = some (.string wi) := by
                obtain ⟨ad, e, hq⟩ := Kd.at_string (Kd.R_reads' RW.out).2.2 (i : Int) (by omega) (by omega)
                cases e
                rw [add_plain, Int.toNat_natCast, ← hwi0] at hq
                exact hq
              have HWi := Aside0.mk hwi0
              have HL2 := Aside0.mk hl2
              clear hwi0 hl2
              have n0_ := Aside0.mk (below_drew1 HB.out)
              have n1_ := Aside0.mk (Kd.R_drew RM.out)
              have n2_ := Aside0.mk (Kd.R_drew RW.out)
              have n3_ := Aside0.mk (blk_drew BX.out)
              have n4_ := Aside0.mk (show w5.drew.heap[gL]? = some (.cells let4 5 (4, 5)) from LT.out)
              have n5_ := Aside0.mk (blk_drew NX.out)
              have n6_ := Aside0.mk (map_below MP.out (below_drew (Below.refl _ _)))
              have n7_ : w5.drew.cell? ⟨gw, i, none⟩ = some (.string wi) := hwi
              clear HB RM RW BX LT NX MP hwi
              have HB := n0_
              have RM := n1_
              have RW := n2_
              have BX := n3_
              have LT := n4_
              have NX := n5_
              have MP := n6_
              have hwi := n7_
              clear n0_ n1_ n2_ n3_ n4_ n5_ n6_ n7_
              obtain ⟨lj, hlj⟩ : ∃ s, s = lett j := ⟨_, rfl⟩
              have heU : Utf8.encode (wrap32 (97 + (j : Int))) = lj := by rw [hlj]; exact enc_lett hj
              have hzl : (9223372036854775807 < wi.size + lj.size) = False := eq_false (by rw [hlj, lett_size]; omega)
              have HLj := Aside0.mk hlj
              clear hlj
              refine start_ (n := 32) (S := fun w' => w'.cell? ⟨gm, 1, none⟩ = some (.slice (some ⟨gr2, 0, none⟩) sj.1.length cr2) ∧ w'.cell? ⟨gm, 2, none⟩ = some (.slice (some ⟨gw, 0, none⟩) sj.2.length cw) ∧ w'.cell? ⟨gw, i, none⟩ = some (.string wi) ∧ w'.cell? ⟨gN, 0, none⟩ = some (.int .i64 (rd mN 0)) ∧ w'.cell? ⟨gN, 1, none⟩ = some (.int .i64 (rd mN 1)) ∧ w'.cell? ⟨gN, 2, none⟩ = some (.int .i64 (rd mN 2)) ∧ w'.cell? ⟨gN, 3, none⟩ = some (.int .i64 (rd mN 3))) (ds := [25, 28, 31]) #[false, false, false, false, false, false, false, false, false, false, false, false, false, false, false, false, false, false, false, false, false, false, false, false, false, false, false, false, false, false, false, false] (by kernel_rfl) rfl rfl ⟨(blk_cell BX.out 1).trans rfl, (blk_cell BX.out 2).trans rfl, hwi, (blk_cell NX.out 0).trans rfl, (blk_cell NX.out 1).trans rfl, (blk_cell NX.out 2).trans rfl, (blk_cell NX.out 3).trans rfl⟩ (fun hHeld => ?_); refine with_tabW mo14.tab14 mo14.bits14 (fun HT_ HW_ => ?_)
              generalize w5.drew = w6 at HB RM RW BX LT NX MP hwi hHeld ⊢
              refine pure_ (i := 0) (N := some 74) (v := ?_) (a' := ?_) #[true, false, false, false, false, false, false, false, false, false, false, false, false, false, false, false, false, false, false, false, false, false, false, false, false, false, false, false, false, false, false, false] rfl rfl (any_of HT_.out (by kernel_rfl)) (fun _ _ _ h => h) (Or.inl ⟨by rfl, ?_⟩) ?_ ?_
              rotate_left
              · intro w'
                go_simp
                with_reducible rfl
              rotate_left
              · simp only [Act.put, List.setIfInBounds_toArray, List.set_cons_zero, List.set_cons_succ, i64_w, i32_w]
                rfl
              refine pure_ (i := 1) (N := some 75) (v := ?_) (a' := ?_) #[true, true, false, false, false, false, false, false, false, false, false, false, false, false, false, false, false, false, false, false, false, false, false, false, false, false, false, false, false, false, false, false] rfl rfl (any_of HT_.out (by kernel_rfl)) (fun _ _ _ h => h) (Or.inl ⟨by rfl, ?_⟩) ?_ ?_
              rotate_left
              · intro w'
                go_simp
                with_reducible rfl
              rotate_left
              · simp only [Act.put, List.setIfInBounds_toArray, List.set_cons_zero, List.set_cons_succ, i64_w, i32_w]
                rfl
              refine pure_ (i := 2) (N := some 76) (v := ?_) (a' := ?_) #[true, true, true, false, false, false, false, false, false, false, false, false, false, false, false, false, false, false, false, false, false, false, false, false, false, false, false, false, false, false, false, false] rfl rfl (any_of HT_.out (by kernel_rfl)) (fun _ _ _ h => h) (Or.inl ⟨by rfl, ?_⟩) ?_ ?_
              rotate_left
              · intro w'
                go_simp
                with_reducible rfl
              rotate_left
              · simp only [Act.put, List.setIfInBounds_toArray, List.set_cons_zero, List.set_cons_succ, i64_w, i32_w]
                rfl
              refine pure_ (i := 3) (N := some 77) (v := ?_) (a' := ?_) #[true, true, true, true, false, false, false, false, false, false, false, false, false, false, false, false, false, false, false, false, false, false, false, false, false, false, false, false, false, false, false, false] rfl rfl (any_of HT_.out (by kernel_rfl)) (fun _ _ _ h => h) (Or.inl ⟨by rfl, ?_⟩) ?_ ?_
              rotate_left
              · intro w'
                go_simp
                with_reducible rfl
              rotate_left
              · simp only [Act.put, List.setIfInBounds_toArray, List.set_cons_zero, List.set_cons_succ, i64_w, i32_w]
                rfl
              refine pure_ (i := 4) (N := some 78) (v := ?_) (a' := ?_) #[true, true, true, true, true, false, false, false, false, false, false, false, false, false, false, false, false, false, false, false, false, false, false, false, false, false, false, false, false, false, false, false] rfl rfl (any_of HT_.out (by kernel_rfl)) (fun _ _ _ h => h) (Or.inl ⟨by rfl, ?_⟩) ?_ ?_
              rotate_left
              · intro w'
                go_simp
                with_reducible rfl
              rotate_left
              · simp only [Act.put, List.setIfInBounds_toArray, List.set_cons_zero, List.set_cons_succ, i64_w, i32_w]
                rfl
              refine pure_ (i := 9) (N := some 83) (v := ?_) (a' := ?_) #[true, true, true, true, true, false, false, false, false, true, false, false, false, false, false, false, false, false, false, false, false, false, false, false, false, false, false, false, false, false, false, false] rfl rfl (any_of HT_.out (by kernel_rfl)) (fun _ _ _ h => h) (Or.inl ⟨by rfl, ?_⟩) ?_ ?_
              rotate_left
              · intro w'
                go_simp
                with_reducible rfl
              rotate_left
              · simp only [Act.put, List.setIfInBounds_toArray, List.set_cons_zero, List.set_cons_succ, i64_w, i32_w]
                rfl
              refine pure_ (i := 10) (N := some 84) (v := ?_) (a' := ?_) #[true, true, true, true, true, false, false, false, false, true, true, false, false, false, false, false, false, false, false, false, false, false, false, false, false, false, false, false, false, false, false, false] rfl rfl (any_of HT_.out (by kernel_rfl)) (fun _ _ _ h => h) (Or.inl ⟨by rfl, ?_⟩) ?_ ?_
              rotate_left
              · intro w'
                go_simp
                with_reducible rfl
              rotate_left
              · simp only [Act.put, List.setIfInBounds_toArray, List.set_cons_zero, List.set_cons_succ, i64_w, i32_w]
                rfl
              refine pure_ (i := 11) (N := some 85) (v := ?_) (a' := ?_) #[true, true, true, true, true, false, false, false, false, true, true, true, false, false, false, false, false, false, false, false, false, false, false, false, false, false, false, false, false, false, false, false] rfl rfl (any_of HT_.out (by kernel_rfl)) (fun _ _ _ h => h) (Or.inl ⟨by rfl, ?_⟩) ?_ ?_
              rotate_left
              · intro w'
                go_simp
                with_reducible rfl
              rotate_left
              · simp only [Act.put, List.setIfInBounds_toArray, List.set_cons_zero, List.set_cons_succ, i64_w, i32_w]
                rfl
              refine pure_ (i := 13) (N := some 87) (v := ?_) (a' := ?_) #[true, true, true, true, true, false, false, false, false, true, true, true, false, true, false, false, false, false, false, false, false, false, false, false, false, false, false, false, false, false, false, false] rfl rfl (any_of HT_.out (by kernel_rfl)) (fun _ _ _ h => h) (Or.inl ⟨by rfl, ?_⟩) ?_ ?_
              rotate_left
              · intro w'
                go_simp
                with_reducible rfl
              rotate_left
              · simp only [Act.put, List.setIfInBounds_toArray, List.set_cons_zero, List.set_cons_succ, i64_w, i32_w]
                rfl
              refine pure_ (i := 14) (N := some 88) (v := ?_) (a' := ?_) #[true, true, true, true, true, false, false, false, false, true, true, true, false, true, true, false, false, false, false, false, false, false, false, false, false, false, false, false, false, false, false, false] rfl rfl (any_of HT_.out (by kernel_rfl)) (fun _ _ _ h => h) (Or.inl ⟨by rfl, ?_⟩) ?_ ?_
              rotate_left
              · intro w'
                go_simp
                with_reducible rfl
              rotate_left
              · simp only [Act.put, List.setIfInBounds_toArray, List.set_cons_zero, List.set_cons_succ, i64_w, i32_w]
                rfl
              refine pure_ (i := 15) (N := some 89) (v := ?_) (a' := ?_) #[true, true, true, true, true, false, false, false, false, true, true, true, false, true, true, true, false, false, false, false, false, false, false, false, false, false, false, false, false, false, false, false] rfl rfl (any_of HT_.out (by kernel_rfl)) (fun _ _ _ h => h) (Or.inl ⟨by rfl, ?_⟩) ?_ ?_
              rotate_left
              · intro w'
                go_simp
                with_reducible rfl
              rotate_left
              · simp only [Act.put, List.setIfInBounds_toArray, List.set_cons_zero, List.set_cons_succ, i64_w, i32_w]
                rfl
              refine pure_ (i := 17) (N := some 91) (v := ?_) (a' := ?_) #[true, true, true, true, true, false, false, false, false, true, true, true, false, true, true, true, false, true, false, false, false, false, false, false, false, false, false, false, false, false, false, false] rfl rfl (any_of HT_.out (by kernel_rfl)) (fun _ _ _ h => h) (Or.inl ⟨by rfl, ?_⟩) ?_ ?_
              rotate_left
              · intro w'
                go_simp
                with_reducible rfl
              rotate_left
              · simp only [Act.put, List.setIfInBounds_toArray, List.set_cons_zero, List.set_cons_succ, i64_w, i32_w]
                rfl
              refine pure_ (i := 20) (N := some 94) (v := ?_) (a' := ?_) #[true, true, true, true, true, false, false, false, false, true, true, true, false, true, true, true, false, true, false, false, true, false, false, false, false, false, false, false, false, false, false, false] rfl rfl (any_of HT_.out (by kernel_rfl)) (fun _ _ _ h => h) (Or.inl ⟨by rfl, ?_⟩) ?_ ?_
              rotate_left
              · intro w'
                go_simp
                with_reducible rfl
              rotate_left
              · simp only [Act.put, List.setIfInBounds_toArray, List.set_cons_zero, List.set_cons_succ, i64_w, i32_w]
                rfl
              refine pure_ (i := 21) (N := some 95) (v := ?_) (a' := ?_) #[true, true, true, true, true, false, false, false, false, true, true, true, false, true, true, true, false, true, false, false, true, true, false, false, false, false, false, false, false, false, false, false] rfl rfl (any_of HT_.out (by kernel_rfl)) (fun _ _ _ h => h) (Or.inl ⟨by rfl, ?_⟩) ?_ ?_
              rotate_left
              · intro w'
                go_simp
                with_reducible rfl
              rotate_left
              · simp only [Act.put, List.setIfInBounds_toArray, List.set_cons_zero, List.set_cons_succ, i64_w, i32_w]
                rfl
              refine pure_ (i := 22) (N := some 96) (v := ?_) (a' := ?_) #[true, true, true, true, true, false, false, false, false, true, true, true, false, true, true, true, false, true, false, false, true, true, true, false, false, false, false, false, false, false, false, false] rfl rfl (any_of HT_.out (by kernel_rfl)) (fun _ _ _ h => h) (Or.inl ⟨by rfl, ?_⟩) ?_ ?_
              rotate_left
              · intro w'
                go_simp
                with_reducible rfl
              rotate_left
              · simp only [Act.put, List.setIfInBounds_toArray, List.set_cons_zero, List.set_cons_succ, i64_w, i32_w]
                rfl
              refine take_ (i := 5) (N := some 79) (v := ?_) (a' := ?_) #[true, true, true, true, true, true, false, false, false, true, true, true, false, true, true, true, false, true, false, false, true, true, true, false, false, false, false, false, false, false, false, false] rfl rfl (take_ofW HT_.out HW_.out (by kernel_rfl)) (fun _ _ _ h => h) (Or.inl ⟨by rfl, ?_⟩) hHeld ?_ ?_
              rotate_left
              · rintro w' ⟨s0, s1, s2, s3, s4, s5, s6⟩
                go_simp
                with_reducible rfl
              rotate_left
              · simp only [Act.put, List.setIfInBounds_toArray, List.set_cons_zero, List.set_cons_succ, i64_w, i32_w]
                rfl
              refine take_ (i := 6) (N := some 80) (v := ?_) (a' := ?_) #[true, true, true, true, true, true, true, false, false, true, true, true, false, true, true, true, false, true, false, false, true, true, true, false, false, false, false, false, false, false, false, false] rfl rfl (take_ofW HT_.out HW_.out (by kernel_rfl)) (fun _ _ _ h => h) (Or.inl ⟨by rfl, ?_⟩) hHeld ?_ ?_
              rotate_left
              · rintro w' ⟨s0, s1, s2, s3, s4, s5, s6⟩
                go_simp
                with_reducible rfl
              rotate_left
              · simp only [Act.put, List.setIfInBounds_toArray, List.set_cons_zero, List.set_cons_succ, i64_w, i32_w]
                rfl
              refine take_ (i := 12) (N := some 86) (v := ?_) (a' := ?_) #[true, true, true, true, true, true, true, false, false, true, true, true, true, true, true, true, false, true, false, false, true, true, true, false, false, false, false, false, false, false, false, false] rfl rfl (take_ofW HT_.out HW_.out (by kernel_rfl)) (fun _ _ _ h => h) (Or.inl ⟨by rfl, ?_⟩) hHeld ?_ ?_
              rotate_left
              · rintro w' ⟨s0, s1, s2, s3, s4, s5, s6⟩
                go_simp
                with_reducible rfl
              rotate_left
              · simp only [Act.put, List.setIfInBounds_toArray, List.set_cons_zero, List.set_cons_succ, i64_w, i32_w]
                rfl
              refine take_ (i := 16) (N := some 90) (v := ?_) (a' := ?_) #[true, true, true, true, true, true, true, false, false, true, true, true, true, true, true, true, true, true, false, false, true, true, true, false, false, false, false, false, false, false, false, false] rfl rfl (take_ofW HT_.out HW_.out (by kernel_rfl)) (fun _ _ _ h => h) (Or.inl ⟨by rfl, ?_⟩) hHeld ?_ ?_
              rotate_left
              · rintro w' ⟨s0, s1, s2, s3, s4, s5, s6⟩
                go_simp
                with_reducible rfl
              rotate_left
              · simp only [Act.put, List.setIfInBounds_toArray, List.set_cons_zero, List.set_cons_succ, i64_w, i32_w]
                rfl
              refine pure_ (i := 18) (N := some 92) (v := ?_) (a' := ?_) #[true, true, true, true, true, true, true, false, false, true, true, true, true, true, true, true, true, true, true, false, true, true, true, false, false, false, false, false, false, false, false, false] rfl rfl (any_of HT_.out (by kernel_rfl)) (fun _ _ _ h => h) (Or.inl ⟨by rfl, ?_⟩) ?_ ?_
              rotate_left
              · intro w'
                go_simp
                with_reducible rfl
              rotate_left
              · simp only [Act.put, List.setIfInBounds_toArray, List.set_cons_zero, List.set_cons_succ, i64_w, i32_w]
                rfl
              refine take_ (i := 19) (N := some 93) (v := ?_) (a' := ?_) #[true, true, true, true, true, true, true, false, false, true, true, true, true, true, true, true, true, true, true, true, true, true, true, false, false, false, false, false, false, false, false, false] rfl rfl (take_ofW HT_.out HW_.out (by kernel_rfl)) (fun _ _ _ h => h) (Or.inl ⟨by rfl, ?_⟩) hHeld ?_ ?_
              rotate_left
              · rintro w' ⟨s0, s1, s2, s3, s4, s5, s6⟩
                go_simp
                with_reducible rfl
              rotate_left
              · simp only [Act.put, List.setIfInBounds_toArray, List.set_cons_zero, List.set_cons_succ, i64_w, i32_w]
                rfl
              refine pure_ (i := 23) (N := some 97) (v := ?_) (a' := ?_) #[true, true, true, true, true, true, true, false, false, true, true, true, true, true, true, true, true, true, true, true, true, true, true, true, false, false, false, false, false, false, false, false] rfl rfl (any_of HT_.out (by kernel_rfl)) (fun _ _ _ h => h) (Or.inl ⟨by rfl, ?_⟩) ?_ ?_
              rotate_left
              · intro w'
                go_simp
                with_reducible rfl
              rotate_left
              · simp only [Act.put, List.setIfInBounds_toArray, List.set_cons_zero, List.set_cons_succ, i64_w, i32_w]
                rfl
              refine join_ (σ := Value × Value × Value) 7 #[true, true, true, true, true, true, true, true, true, true, true, true, true, true, true, true, true, true, true, true, true, true, true, true, true, false, false, false, false, false, false, false] (fun s_ => [(81, s_.1), (82, s_.2.1), (98, s_.2.2)]) (fun s_ w' => Kd.R K4 80 w' w.heap.size (fun _ => True) s_.2.1 (sj.1 ++ [mN]) ∧ Kd.R Kd.string 9 w' w.heap.size (fun k_ => some k_ ≠ (s_.2.2 : Value).ownBlock) (.slice (some ⟨gw, 0, none⟩) sj.2.length cw) sj.2 ∧ Kd.R Kd.string 9 w' w.heap.size (fun _ => True) s_.2.2 [wi ++ lj] ∧ w'.heap[gm]? = some (.cells #[.pointer (some ⟨g, 0, none⟩), .slice (some ⟨gr2, 0, none⟩) sj.1.length cr2, .slice (some ⟨gw, 0, none⟩) sj.2.length cw, .map (some gM)] 70 (0, 0)) ∧ w'.heap[gL]? = some (.cells let4 5 (4, 5)) ∧ w'.ownsMap Try.prog 80 (plainElem Try.prog 2) gM (sj.1.length + 1) (D.put (kl4 mN) (.lit (.int .i64 (sj.1.length : Int)))) ∧ Below w.heap.size w w') ?_ ?_
              rotate_left
              · intro hCont
                refine two_ (i := 7) (j := 24) (Ni := some 81) (Nj := some 98) #[true, true, true, true, true, true, true, true, false, true, true, true, true, true, true, true, true, true, true, true, true, true, true, true, false, false, false, false, false, false, false, false] #[true, true, true, true, true, true, true, false, false, true, true, true, true, true, true, true, true, true, true, true, true, true, true, true, true, false, false, false, false, false, false, false] rfl rfl rfl rfl (two_of HT_.out (by kernel_rfl)) (by decide) (by decide) (fun K hK => ?_) (fun K hK => ?_)
                · skip
                  refine Kd.R_lit_step K4 _ 80 ?hg (N := 81) ?hd (xs := [mN]) (inner := cs4 mN) (ok := fun _ => True) (okp := fun _ => True) ?hr ?hp (fun _ hk => hk) trivial (Below.refl _ _) (Nat.le_refl _) (by simp) ?_; (case hd => rfl); (case hg => rfl); (case hr => first | (go_simp; done) | (go_simp; rfl)); (case hp => exact K4_one _ _ _ _)
                  intro v81 w7 ho hb hg_ hnew_
                  have m_R81 := Aside0.mk (Kd.R_lower (Kd.R_new' ho (Kd.R_lt RM.out)) HB.out.size)
                  have m_RM := Aside0.mk (Kd.R_elder' RM.out (Kd.R_base ho) hb)
                  have m_RW := Aside0.mk (Kd.R_below RW.out hb)
                  have m_HB := Aside0.mk (below_step HB.out hb)
                  have m_BX := Aside0.mk (blk_below BX.out hb)
                  have m_LT := Aside0.mk (blk_below LT.out hb)
                  have m_NX := Aside0.mk (blk_below NX.out hb)
                  have m_MP := Aside0.mk (map_below MP.out hb)
                  clear RM RW HB BX LT NX MP
                  have R81 := m_R81
                  have RM := m_RM
                  have RW := m_RW
                  have HB := m_HB
                  have BX := m_BX
                  have LT := m_LT
                  have NX := m_NX
                  have MP := m_MP
                  clear m_R81 m_RM m_RW m_HB m_BX m_LT m_NX m_MP
                  clear ho hb hg_ hnew_ hHeld
                  obtain ⟨A81, c81, e81⟩ := Kd.R_slice R81.out
                  subst e81
                  refine hK.out _ _ ⟨(blk_cell BX.out 1).trans rfl, (blk_cell BX.out 2).trans rfl, (by rw [HWi.out]; exact word_at RW.out hij2), (blk_cell NX.out 0).trans rfl, (blk_cell NX.out 1).trans rfl, (blk_cell NX.out 2).trans rfl, (blk_cell NX.out 3).trans rfl⟩ (fun hHeld => ?_)
                  clear hK K
                  refine norm_ (a' := ?_) ?_ ?_
                  rotate_left
                  · show Act.put _ (some 81) _ = _
                    simp only [Act.put, List.setIfInBounds_toArray, List.set_cons_zero, List.set_cons_succ, i64_w, i32_w]
                    rfl
                  refine two_ (i := 8) (j := 24) (Ni := some 82) (Nj := some 98) #[true, true, true, true, true, true, true, true, true, true, true, true, true, true, true, true, true, true, true, true, true, true, true, true, false, false, false, false, false, false, false, false] #[true, true, true, true, true, true, true, true, false, true, true, true, true, true, true, true, true, true, true, true, true, true, true, true, true, false, false, false, false, false, false, false] rfl rfl rfl rfl (two_of HT_.out (by kernel_rfl)) (by decide) (by decide) (fun K hK => ?_) (fun K hK => ?_)
                  · skip
                    refine Kd.R_append_rows_step K4 (w0 := w) w.heap.size (by rfl) (.tmp 79) (.tmp 81) 67 80 (.agg #[.int .i64 0, .int .i64 0, .int .i64 0, .int .i64 0]) 32 rfl Try.underlying67 info80 rfl (by decide) (by omega) (.slice (some ⟨gr2, 0, none⟩) sj.1.length cr2) sj.1 [mN] _ _ _ (fun k_ => some k_ ≠ (.slice A81 [mN].length c81 : Value).ownBlock) (fun _ => False) rfl rfl ?aO ?aR (fun _ _ h => h) (fun _ h => h.elim) ?aF ?aB ?aS ?aL ?_
                    (case aR => exact (Kd.R_reads' R81.out).2.2)
                    (case aB => exact HB.out)
                    (case aF => exact (fun k_ hk => Kd.fresh' (Kd.R_lt R81.out) k_ hk))
                    (case aO => exact Kd.R_mono RM.out (fun _ hk => hk.2))
                    (case aS => exact HB.out.size)
                    (case aL => simp; omega)
                    intro v82 w8 ho hb hg hat
                    have m_R82 := Aside0.mk (Kd.R_mono ho (ok' := fun _ => True) (fun _ _ => trivial))
                    have m_RW := Aside0.mk (Kd.R_over' RW.out (Kd.R_typed RM.out) (by decide) hg)
                    have m_BX := Aside0.mk (blk_grown BX.out hg (Kd.R_ne RM.out BX.out (by decide)))
                    have m_LT := Aside0.mk (any_over LT.out RM.out (by decide) hg)
                    have m_NX := Aside0.mk (blk_grown NX.out hg (by simp [Value.ownBlock]; omega))
                    have m_MP := Aside0.mk (map_grown MP.out RM.out hg)
                    have m_HB := Aside0.mk (hb)
                    clear RW BX LT NX MP HB
                    have R82 := m_R82
                    have RW := m_RW
                    have BX := m_BX
                    have LT := m_LT
                    have NX := m_NX
                    have MP := m_MP
                    have HB := m_HB
                    clear m_R82 m_RW m_BX m_LT m_NX m_MP m_HB
                    clear ho hb hg hat hHeld RM R81
                    refine hK.out _ _ ⟨(blk_cell BX.out 1).trans rfl, (blk_cell BX.out 2).trans rfl, (by rw [HWi.out]; exact word_at RW.out hij2), (blk_cell NX.out 0).trans rfl, (blk_cell NX.out 1).trans rfl, (blk_cell NX.out 2).trans rfl, (blk_cell NX.out 3).trans rfl⟩ (fun hHeld => ?_)
                    clear hK K
                    refine norm_ (a' := ?_) ?_ ?_
                    rotate_left
                    · show Act.put _ (some 82) _ = _
                      simp only [Act.put, List.setIfInBounds_toArray, List.set_cons_zero, List.set_cons_succ, i64_w, i32_w]
                      rfl
                    refine one_ (i := 24) (N := some 98) #[true, true, true, true, true, true, true, true, true, true, true, true, true, true, true, true, true, true, true, true, true, true, true, true, true, false, false, false, false, false, false, false] rfl rfl (one_of HT_.out (by kernel_rfl)) (by decide) (fun K hK => ?_)
                    refine Kd.R_lit_step Kd.string _ 9 ?hg (N := 98) ?hd (xs := [wi ++ lj]) (inner := [.string (wi ++ lj)]) (ok := fun _ => True) (okp := fun _ => True) ?hr ?hp (fun _ hk => hk) trivial (Below.refl _ _) (Nat.le_refl _) (by simp) ?_; (case hd => rfl); (case hg => rfl); (case hr => first | (go_simp; done) | (go_simp; rfl)); (case hp => exact (Reps.one (show Kd.M Kd.string _ _ _ (wi ++ lj) [.string (wi ++ lj)] from rfl) (Reps.none _ _)))
                    intro v98 w9 ho hb hg_ hnew_
                    have m_R98 := Aside0.mk (Kd.R_lower (Kd.R_new' ho (Kd.R_lt RW.out)) HB.out.size)
                    have m_RW := Aside0.mk (Kd.R_elder' RW.out (Kd.R_base ho) hb)
                    have m_R82 := Aside0.mk (Kd.R_below R82.out hb)
                    have m_HB := Aside0.mk (below_step HB.out hb)
                    have m_BX := Aside0.mk (blk_below BX.out hb)
                    have m_LT := Aside0.mk (blk_below LT.out hb)
                    have m_NX := Aside0.mk (blk_below NX.out hb)
                    have m_MP := Aside0.mk (map_below MP.out hb)
                    clear RW R82 HB BX LT NX MP
                    have R98 := m_R98
                    have RW := m_RW
                    have R82 := m_R82
                    have HB := m_HB
                    have BX := m_BX
                    have LT := m_LT
                    have NX := m_NX
                    have MP := m_MP
                    clear m_R98 m_RW m_R82 m_HB m_BX m_LT m_NX m_MP
                    clear ho hb hg_ hnew_ hHeld
                    obtain ⟨A98, c98, e98⟩ := Kd.R_slice R98.out
                    subst e98
                    refine hK.out _ _ ⟨(blk_cell BX.out 1).trans rfl, (blk_cell BX.out 2).trans rfl, (by rw [HWi.out]; exact word_at RW.out hij2), (blk_cell NX.out 0).trans rfl, (blk_cell NX.out 1).trans rfl, (blk_cell NX.out 2).trans rfl, (blk_cell NX.out 3).trans rfl⟩ (fun hHeld => ?_)
                    clear hK K
                    refine norm_ (a' := ?_) ?_ ?_
                    rotate_left
                    · show Act.put _ (some 98) _ = _
                      simp only [Act.put, List.setIfInBounds_toArray, List.set_cons_zero, List.set_cons_succ, i64_w, i32_w]
                      rfl
                    exact norm_ (by simp only [putAll, Act.put, List.setIfInBounds_toArray, List.set_cons_zero, List.set_cons_succ]) (hCont (.slice A81 [mN].length c81, v82, .slice A98 [wi ++ lj].length c98) _ ⟨R82.out, Kd.R_mono RW.out (fun _ hk => hk.2), Kd.R_mono R98.out (fun _ _ => trivial), BX.out, LT.out, MP.out, HB.out⟩)
                  · skip
                    refine Kd.R_lit_step Kd.string _ 9 ?hg (N := 98) ?hd (xs := [wi ++ lj]) (inner := [.string (wi ++ lj)]) (ok := fun _ => True) (okp := fun _ => True) ?hr ?hp (fun _ hk => hk) trivial (Below.refl _ _) (Nat.le_refl _) (by simp) ?_; (case hd => rfl); (case hg => rfl); (case hr => first | (go_simp; done) | (go_simp; rfl)); (case hp => exact (Reps.one (show Kd.M Kd.string _ _ _ (wi ++ lj) [.string (wi ++ lj)] from rfl) (Reps.none _ _)))
                    intro v98 w8 ho hb hg_ hnew_
                    have m_R98 := Aside0.mk (Kd.R_lower (Kd.R_new' ho (Kd.R_lt RW.out)) HB.out.size)
                    have m_RW := Aside0.mk (Kd.R_elder' RW.out (Kd.R_base ho) hb)
                    have m_RM := Aside0.mk (Kd.R_below RM.out hb)
                    have m_R81 := Aside0.mk (Kd.R_below R81.out hb)
                    have m_HB := Aside0.mk (below_step HB.out hb)
                    have m_BX := Aside0.mk (blk_below BX.out hb)
                    have m_LT := Aside0.mk (blk_below LT.out hb)
                    have m_NX := Aside0.mk (blk_below NX.out hb)
                    have m_MP := Aside0.mk (map_below MP.out hb)
                    clear RW RM R81 HB BX LT NX MP
                    have R98 := m_R98
                    have RW := m_RW
                    have RM := m_RM
                    have R81 := m_R81
                    have HB := m_HB
                    have BX := m_BX
                    have LT := m_LT
                    have NX := m_NX
                    have MP := m_MP
                    clear m_R98 m_RW m_RM m_R81 m_HB m_BX m_LT m_NX m_MP
                    clear ho hb hg_ hnew_ hHeld
                    obtain ⟨A98, c98, e98⟩ := Kd.R_slice R98.out
                    subst e98
                    refine hK.out _ _ ⟨(blk_cell BX.out 1).trans rfl, (blk_cell BX.out 2).trans rfl, (by rw [HWi.out]; exact word_at RW.out hij2), (blk_cell NX.out 0).trans rfl, (blk_cell NX.out 1).trans rfl, (blk_cell NX.out 2).trans rfl, (blk_cell NX.out 3).trans rfl⟩ (fun hHeld => ?_)
                    clear hK K
                    refine norm_ (a' := ?_) ?_ ?_
                    rotate_left
                    · show Act.put _ (some 98) _ = _
                      simp only [Act.put, List.setIfInBounds_toArray, List.set_cons_zero, List.set_cons_succ, i64_w, i32_w]
                      rfl
                    refine one_ (i := 8) (N := some 82) #[true, true, true, true, true, true, true, true, true, true, true, true, true, true, true, true, true, true, true, true, true, true, true, true, true, false, false, false, false, false, false, false] rfl rfl (one_of HT_.out (by kernel_rfl)) (by decide) (fun K hK => ?_)
                    refine Kd.R_append_rows_step K4 (w0 := w) w.heap.size (by rfl) (.tmp 79) (.tmp 81) 67 80 (.agg #[.int .i64 0, .int .i64 0, .int .i64 0, .int .i64 0]) 32 rfl Try.underlying67 info80 rfl (by decide) (by omega) (.slice (some ⟨gr2, 0, none⟩) sj.1.length cr2) sj.1 [mN] _ _ _ (fun k_ => some k_ ≠ (.slice A81 [mN].length c81 : Value).ownBlock) (fun _ => False) rfl rfl ?aO ?aR (fun _ _ h => h) (fun _ h => h.elim) ?aF ?aB ?aS ?aL ?_
                    (case aR => exact (Kd.R_reads' R81.out).2.2)
                    (case aB => exact HB.out)
                    (case aF => exact (fun k_ hk => Kd.fresh' (Kd.R_lt R81.out) k_ hk))
                    (case aO => exact Kd.R_mono RM.out (fun _ hk => hk.2))
                    (case aS => exact HB.out.size)
                    (case aL => simp; omega)
                    intro v82 w9 ho hb hg hat
                    have m_R82 := Aside0.mk (Kd.R_mono ho (ok' := fun _ => True) (fun _ _ => trivial))
                    have m_RW := Aside0.mk (Kd.R_over' RW.out (Kd.R_typed RM.out) (by decide) hg)
                    have m_R98 := Aside0.mk (Kd.R_over' R98.out (Kd.R_typed RM.out) (by decide) hg)
                    have m_BX := Aside0.mk (blk_grown BX.out hg (Kd.R_ne RM.out BX.out (by decide)))
                    have m_LT := Aside0.mk (any_over LT.out RM.out (by decide) hg)
                    have m_NX := Aside0.mk (blk_grown NX.out hg (by simp [Value.ownBlock]; omega))
                    have m_MP := Aside0.mk (map_grown MP.out RM.out hg)
                    have m_HB := Aside0.mk (hb)
                    clear RW R98 BX LT NX MP HB
                    have R82 := m_R82
                    have RW := m_RW
                    have R98 := m_R98
                    have BX := m_BX
                    have LT := m_LT
                    have NX := m_NX
                    have MP := m_MP
                    have HB := m_HB
                    clear m_R82 m_RW m_R98 m_BX m_LT m_NX m_MP m_HB
                    clear ho hb hg hat hHeld RM R81
                    refine hK.out _ _ ⟨(blk_cell BX.out 1).trans rfl, (blk_cell BX.out 2).trans rfl, (by rw [HWi.out]; exact word_at RW.out hij2), (blk_cell NX.out 0).trans rfl, (blk_cell NX.out 1).trans rfl, (blk_cell NX.out 2).trans rfl, (blk_cell NX.out 3).trans rfl⟩ (fun hHeld => ?_)
                    clear hK K
                    refine norm_ (a' := ?_) ?_ ?_
                    rotate_left
                    · show Act.put _ (some 82) _ = _
                      simp only [Act.put, List.setIfInBounds_toArray, List.set_cons_zero, List.set_cons_succ, i64_w, i32_w]
                      rfl
                    exact norm_ (by simp only [putAll, Act.put, List.setIfInBounds_toArray, List.set_cons_zero, List.set_cons_succ]) (hCont (.slice A81 [mN].length c81, v82, .slice A98 [wi ++ lj].length c98) _ ⟨R82.out, Kd.R_mono RW.out (fun _ hk => hk.2), Kd.R_mono R98.out (fun _ _ => trivial), BX.out, LT.out, MP.out, HB.out⟩)
                · skip
                  refine Kd.R_lit_step Kd.string _ 9 ?hg (N := 98) ?hd (xs := [wi ++ lj]) (inner := [.string (wi ++ lj)]) (ok := fun _ => True) (okp := fun _ => True) ?hr ?hp (fun _ hk => hk) trivial (Below.refl _ _) (Nat.le_refl _) (by simp) ?_; (case hd => rfl); (case hg => rfl); (case hr => first | (go_simp; done) | (go_simp; rfl)); (case hp => exact (Reps.one (show Kd.M Kd.string _ _ _ (wi ++ lj) [.string (wi ++ lj)] from rfl) (Reps.none _ _)))
                  intro v98 w7 ho hb hg_ hnew_
                  have m_R98 := Aside0.mk (Kd.R_lower (Kd.R_new' ho (Kd.R_lt RW.out)) HB.out.size)
                  have m_RW := Aside0.mk (Kd.R_elder' RW.out (Kd.R_base ho) hb)
                  have m_RM := Aside0.mk (Kd.R_below RM.out hb)
                  have m_HB := Aside0.mk (below_step HB.out hb)
                  have m_BX := Aside0.mk (blk_below BX.out hb)
                  have m_LT := Aside0.mk (blk_below LT.out hb)
                  have m_NX := Aside0.mk (blk_below NX.out hb)
                  have m_MP := Aside0.mk (map_below MP.out hb)
                  clear RW RM HB BX LT NX MP
                  have R98 := m_R98
                  have RW := m_RW
                  have RM := m_RM
                  have HB := m_HB
                  have BX := m_BX
                  have LT := m_LT
                  have NX := m_NX
                  have MP := m_MP
                  clear m_R98 m_RW m_RM m_HB m_BX m_LT m_NX m_MP
                  clear ho hb hg_ hnew_ hHeld
                  obtain ⟨A98, c98, e98⟩ := Kd.R_slice R98.out
                  subst e98
                  refine hK.out _ _ ⟨(blk_cell BX.out 1).trans rfl, (blk_cell BX.out 2).trans rfl, (by rw [HWi.out]; exact word_at RW.out hij2), (blk_cell NX.out 0).trans rfl, (blk_cell NX.out 1).trans rfl, (blk_cell NX.out 2).trans rfl, (blk_cell NX.out 3).trans rfl⟩ (fun hHeld => ?_)
                  clear hK K
                  refine norm_ (a' := ?_) ?_ ?_
                  rotate_left
                  · show Act.put _ (some 98) _ = _
                    simp only [Act.put, List.setIfInBounds_toArray, List.set_cons_zero, List.set_cons_succ, i64_w, i32_w]
                    rfl
                  refine one_ (i := 7) (N := some 81) #[true, true, true, true, true, true, true, true, false, true, true, true, true, true, true, true, true, true, true, true, true, true, true, true, true, false, false, false, false, false, false, false] rfl rfl (one_of HT_.out (by kernel_rfl)) (by decide) (fun K hK => ?_)
                  refine Kd.R_lit_step K4 _ 80 ?hg (N := 81) ?hd (xs := [mN]) (inner := cs4 mN) (ok := fun _ => True) (okp := fun _ => True) ?hr ?hp (fun _ hk => hk) trivial (Below.refl _ _) (Nat.le_refl _) (by simp) ?_; (case hd => rfl); (case hg => rfl); (case hr => first | (go_simp; done) | (go_simp; rfl)); (case hp => exact K4_one _ _ _ _)
                  intro v81 w8 ho hb hg_ hnew_
                  have m_R81 := Aside0.mk (Kd.R_lower (Kd.R_new' ho (Kd.R_lt RM.out)) HB.out.size)
                  have m_RM := Aside0.mk (Kd.R_elder' RM.out (Kd.R_base ho) hb)
                  have m_RW := Aside0.mk (Kd.R_below RW.out hb)
                  have m_R98 := Aside0.mk (Kd.R_below R98.out hb)
                  have m_HB := Aside0.mk (below_step HB.out hb)
                  have m_BX := Aside0.mk (blk_below BX.out hb)
                  have m_LT := Aside0.mk (blk_below LT.out hb)
                  have m_NX := Aside0.mk (blk_below NX.out hb)
                  have m_MP := Aside0.mk (map_below MP.out hb)
                  clear RM RW R98 HB BX LT NX MP
                  have R81 := m_R81
                  have RM := m_RM
                  have RW := m_RW
                  have R98 := m_R98
                  have HB := m_HB
                  have BX := m_BX
                  have LT := m_LT
                  have NX := m_NX
                  have MP := m_MP
                  clear m_R81 m_RM m_RW m_R98 m_HB m_BX m_LT m_NX m_MP
                  clear ho hb hg_ hnew_ hHeld
                  obtain ⟨A81, c81, e81⟩ := Kd.R_slice R81.out
                  subst e81
                  refine hK.out _ _ ⟨(blk_cell BX.out 1).trans rfl, (blk_cell BX.out 2).trans rfl, (by rw [HWi.out]; exact word_at RW.out hij2), (blk_cell NX.out 0).trans rfl, (blk_cell NX.out 1).trans rfl, (blk_cell NX.out 2).trans rfl, (blk_cell NX.out 3).trans rfl⟩ (fun hHeld => ?_)
                  clear hK K
                  refine norm_ (a' := ?_) ?_ ?_
                  rotate_left
                  · show Act.put _ (some 81) _ = _
                    simp only [Act.put, List.setIfInBounds_toArray, List.set_cons_zero, List.set_cons_succ, i64_w, i32_w]
                    rfl
                  refine one_ (i := 8) (N := some 82) #[true, true, true, true, true, true, true, true, true, true, true, true, true, true, true, true, true, true, true, true, true, true, true, true, true, false, false, false, false, false, false, false] rfl rfl (one_of HT_.out (by kernel_rfl)) (by decide) (fun K hK => ?_)
                  refine Kd.R_append_rows_step K4 (w0 := w) w.heap.size (by rfl) (.tmp 79) (.tmp 81) 67 80 (.agg #[.int .i64 0, .int .i64 0, .int .i64 0, .int .i64 0]) 32 rfl Try.underlying67 info80 rfl (by decide) (by omega) (.slice (some ⟨gr2, 0, none⟩) sj.1.length cr2) sj.1 [mN] _ _ _ (fun k_ => some k_ ≠ (.slice A81 [mN].length c81 : Value).ownBlock) (fun _ => False) rfl rfl ?aO ?aR (fun _ _ h => h) (fun _ h => h.elim) ?aF ?aB ?aS ?aL ?_
                  (case aR => exact (Kd.R_reads' R81.out).2.2)
                  (case aB => exact HB.out)
                  (case aF => exact (fun k_ hk => Kd.fresh' (Kd.R_lt R81.out) k_ hk))
                  (case aO => exact Kd.R_mono RM.out (fun _ hk => hk.2))
                  (case aS => exact HB.out.size)
                  (case aL => simp; omega)
                  intro v82 w9 ho hb hg hat
                  have m_R82 := Aside0.mk (Kd.R_mono ho (ok' := fun _ => True) (fun _ _ => trivial))
                  have m_RW := Aside0.mk (Kd.R_over' RW.out (Kd.R_typed RM.out) (by decide) hg)
                  have m_R98 := Aside0.mk (Kd.R_over' R98.out (Kd.R_typed RM.out) (by decide) hg)
                  have m_BX := Aside0.mk (blk_grown BX.out hg (Kd.R_ne RM.out BX.out (by decide)))
                  have m_LT := Aside0.mk (any_over LT.out RM.out (by decide) hg)
                  have m_NX := Aside0.mk (blk_grown NX.out hg (by simp [Value.ownBlock]; omega))
                  have m_MP := Aside0.mk (map_grown MP.out RM.out hg)
                  have m_HB := Aside0.mk (hb)
                  clear RW R98 BX LT NX MP HB
                  have R82 := m_R82
                  have RW := m_RW
                  have R98 := m_R98
                  have BX := m_BX
                  have LT := m_LT
                  have NX := m_NX
                  have MP := m_MP
                  have HB := m_HB
                  clear m_R82 m_RW m_R98 m_BX m_LT m_NX m_MP m_HB
                  clear ho hb hg hat hHeld RM R81
                  refine hK.out _ _ ⟨(blk_cell BX.out 1).trans rfl, (blk_cell BX.out 2).trans rfl, (by rw [HWi.out]; exact word_at RW.out hij2), (blk_cell NX.out 0).trans rfl, (blk_cell NX.out 1).trans rfl, (blk_cell NX.out 2).trans rfl, (blk_cell NX.out 3).trans rfl⟩ (fun hHeld => ?_)
                  clear hK K
                  refine norm_ (a' := ?_) ?_ ?_
                  rotate_left
                  · show Act.put _ (some 82) _ = _
                    simp only [Act.put, List.setIfInBounds_toArray, List.set_cons_zero, List.set_cons_succ, i64_w, i32_w]
                    rfl
                  exact norm_ (by simp only [putAll, Act.put, List.setIfInBounds_toArray, List.set_cons_zero, List.set_cons_succ]) (hCont (.slice A81 [mN].length c81, v82, .slice A98 [wi ++ lj].length c98) _ ⟨R82.out, Kd.R_mono RW.out (fun _ hk => hk.2), Kd.R_mono R98.out (fun _ _ => trivial), BX.out, LT.out, MP.out, HB.out⟩)
              rintro ⟨v81, v82, v98⟩ w9 ⟨R82, RW, R98, BX, LT, MP, HB⟩
              simp only at R82 RW R98
              replace R82 := Aside0.mk R82
              replace RW := Aside0.mk RW
              replace R98 := Aside0.mk R98
              replace BX := Aside0.mk BX
              replace LT := Aside0.mk LT
              replace MP := Aside0.mk MP
              replace HB := Aside0.mk HB
              obtain ⟨A98, c98, e98⟩ := Kd.R_slice R98.out
              subst e98
              obtain ⟨A82, c82, e82⟩ := Kd.R_slice R82.out
              subst e82
              clear hHeld hwi
              refine norm_ (a' := ?_) ?_ ?_
              rotate_left
              · simp only [putAll, Act.put, List.setIfInBounds_toArray, List.set_cons_zero, List.set_cons_succ]
                rfl
              refine last_ (i := 25) (N := some 99) #[true, true, true, true, true, true, true, true, true, true, true, true, true, true, true, true, true, true, true, true, true, true, true, true, true, true, false, false, false, false, false, false] rfl rfl (one_of HT_.out (by kernel_rfl)) (by decide) (fun K hK => ?_)
              refine Kd.R_append_rows_step Kd.string (w0 := w) w.heap.size (by rfl) (.tmp 86) (.tmp 98) 38 9 (.string ⟨#[]⟩) 16 rfl Try.underlying38 info9 rfl (by decide) (by omega) (.slice (some ⟨gw, 0, none⟩) sj.2.length cw) sj.2 [wi ++ lj] _ _ _ (fun k_ => some k_ ≠ (.slice A98 [wi ++ lj].length c98 : Value).ownBlock) (fun _ => False) rfl rfl ?aO ?aR (fun _ _ h => h) (fun _ h => h.elim) ?aF ?aB ?aS ?aL ?_
              (case aR => exact (Kd.R_reads' R98.out).2.2)
              (case aB => exact HB.out)
              (case aF => exact (fun k_ hk => Kd.fresh' (Kd.R_lt R98.out) k_ hk))
              (case aO => exact RW.out)
              (case aS => exact HB.out.size)
              (case aL => have := HL2.out; simp; omega)
              intro v99 w10 ho hb hg hat
              have m_R99 := Aside0.mk (Kd.R_mono ho (ok' := fun _ => True) (fun _ _ => trivial))
              have m_R82 := Aside0.mk (Kd.R_over' R82.out (Kd.R_typed RW.out) (by decide) hg)
              have m_BX := Aside0.mk (blk_grown BX.out hg (Kd.R_ne RW.out BX.out (by decide)))
              have m_LT := Aside0.mk (any_over LT.out RW.out (by decide) hg)
              have m_MP := Aside0.mk (map_grown MP.out RW.out hg)
              have m_HB := Aside0.mk (hb)
              clear R82 BX LT MP HB
              have R99 := m_R99
              have R82 := m_R82
              have BX := m_BX
              have LT := m_LT
              have MP := m_MP
              have HB := m_HB
              clear m_R99 m_R82 m_BX m_LT m_MP m_HB
              clear ho hb hg hat RW R98
              obtain ⟨A99, c99, e99⟩ := Kd.R_slice R99.out
              subst e99
              refine hK.out _ _ ?_
              clear hK K
              refine norm_ (a' := ?_) ?_ ?_
              rotate_left
              · show Act.put _ (some 99) _ = _
                simp only [Act.put, List.setIfInBounds_toArray, List.set_cons_zero, List.set_cons_succ, i64_w, i32_w]
                rfl
              refine pure_ (i := 26) (N := some 100) (v := ?_) (a' := ?_) #[true, true, true, true, true, true, true, true, true, true, true, true, true, true, true, true, true, true, true, true, true, true, true, true, true, true, true, false, false, false, false, false] rfl rfl (any_of HT_.out (by kernel_rfl)) (fun _ _ _ h => h) (Or.inl ⟨by rfl, ?_⟩) ?_ ?_
              rotate_left
              · intro w'
                go_simp
                with_reducible rfl
              rotate_left
              · simp only [Act.put, List.setIfInBounds_toArray, List.set_cons_zero, List.set_cons_succ, i64_w, i32_w]
                rfl
              refine pure_ (i := 27) (N := some 101) (v := ?_) (a' := ?_) #[true, true, true, true, true, true, true, true, true, true, true, true, true, true, true, true, true, true, true, true, true, true, true, true, true, true, true, true, false, false, false, false] rfl rfl (any_of HT_.out (by kernel_rfl)) (fun _ _ _ h => h) (Or.inl ⟨by rfl, ?_⟩) ?_ ?_
              rotate_left
              · intro w'
                go_simp
                with_reducible rfl
              rotate_left
              · simp only [Act.put, List.setIfInBounds_toArray, List.set_cons_zero, List.set_cons_succ, i64_w, i32_w]
                rfl
              refine last_ (i := 28) (N := none) #[true, true, true, true, true, true, true, true, true, true, true, true, true, true, true, true, true, true, true, true, true, true, true, true, true, true, true, true, true, false, false, false] rfl rfl (one_of HT_.out (by kernel_rfl)) (by decide) (fun K hK => ?_)
              have hcB_ := (blk_cell BX.out 1).trans rfl
              have hfB_ := blk_frozen BX.out 1
              refine skip_ (w1 := w10.setCell ⟨gm, 1, none⟩ (.slice A82 (sj.1 ++ [mN]).length c82)) (by rfl) rfl (by go_simp) ?_
              clear hcB_ hfB_
              have gne_ : gM ≠ gm := ne_of_map MP.out BX.out
              have m_R82 := Aside0.mk (R_set R82.out rfl BX.out (by decide) 1 (.slice A82 (sj.1 ++ [mN]).length c82))
              have m_R99 := Aside0.mk (R_set R99.out rfl BX.out (by decide) 1 (.slice A82 (sj.1 ++ [mN]).length c82))
              have m_LT := Aside0.mk (any_set LT.out BX.out (by decide) 1 (.slice A82 (sj.1 ++ [mN]).length c82))
              have m_MP := Aside0.mk (MP.out.setCell (a := ⟨gm, 1, none⟩) gne_ (.slice A82 (sj.1 ++ [mN]).length c82))
              have m_HB := Aside0.mk (HB.out.setCell (p := ⟨gm, 1, none⟩) GE.out.1 (.slice A82 (sj.1 ++ [mN]).length c82))
              have m_BX := Aside0.mk (blk_put BX.out 1 (.slice A82 (sj.1 ++ [mN]).length c82) (cs' := #[.pointer (some ⟨g, 0, none⟩), .slice A82 (sj.1 ++ [mN]).length c82, .slice (some ⟨gw, 0, none⟩) sj.2.length cw, .map (some gM)]) rfl)
              clear R82 R99 LT MP HB BX
              have R82 := m_R82
              have R99 := m_R99
              have LT := m_LT
              have MP := m_MP
              have HB := m_HB
              have BX := m_BX
              clear m_R82 m_R99 m_LT m_MP m_HB m_BX
              clear gne_
              refine hK.out _ _ ?_
              clear hK K
              generalize w10.setCell ⟨gm, 1, none⟩ (.slice A82 (sj.1 ++ [mN]).length c82) = w11 at R82 R99 LT MP HB BX ⊢
              refine pure_ (i := 29) (N := some 102) (v := ?_) (a' := ?_) #[true, true, true, true, true, true, true, true, true, true, true, true, true, true, true, true, true, true, true, true, true, true, true, true, true, true, true, true, true, true, false, false] rfl rfl (any_of HT_.out (by kernel_rfl)) (fun _ _ _ h => h) (Or.inl ⟨by rfl, ?_⟩) ?_ ?_
              rotate_left
              · intro w'
                go_simp
                with_reducible rfl
              rotate_left
              · simp only [Act.put, List.setIfInBounds_toArray, List.set_cons_zero, List.set_cons_succ, i64_w, i32_w]
                rfl
              refine pure_ (i := 30) (N := some 103) (v := ?_) (a' := ?_) #[true, true, true, true, true, true, true, true, true, true, true, true, true, true, true, true, true, true, true, true, true, true, true, true, true, true, true, true, true, true, true, false] rfl rfl (any_of HT_.out (by kernel_rfl)) (fun _ _ _ h => h) (Or.inl ⟨by rfl, ?_⟩) ?_ ?_
              rotate_left
              · intro w'
                go_simp
                with_reducible rfl
              rotate_left
              · simp only [Act.put, List.setIfInBounds_toArray, List.set_cons_zero, List.set_cons_succ, i64_w, i32_w]
                rfl
              refine last_ (i := 31) (N := none) #[true, true, true, true, true, true, true, true, true, true, true, true, true, true, true, true, true, true, true, true, true, true, true, true, true, true, true, true, true, true, true, true] rfl rfl (one_of HT_.out (by kernel_rfl)) (by decide) (fun K hK => ?_)
              have hcB_ := (blk_cell BX.out 2).trans rfl
              have hfB_ := blk_frozen BX.out 2
              refine skip_ (w1 := w11.setCell ⟨gm, 2, none⟩ (.slice A99 (sj.2 ++ [wi ++ lj]).length c99)) (by rfl) rfl (by go_simp) ?_
              clear hcB_ hfB_
              have gne_ : gM ≠ gm := ne_of_map MP.out BX.out
              have m_R82 := Aside0.mk (R_set R82.out rfl BX.out (by decide) 2 (.slice A99 (sj.2 ++ [wi ++ lj]).length c99))
              have m_R99 := Aside0.mk (R_set R99.out rfl BX.out (by decide) 2 (.slice A99 (sj.2 ++ [wi ++ lj]).length c99))
              have m_LT := Aside0.mk (any_set LT.out BX.out (by decide) 2 (.slice A99 (sj.2 ++ [wi ++ lj]).length c99))
              have m_MP := Aside0.mk (MP.out.setCell (a := ⟨gm, 2, none⟩) gne_ (.slice A99 (sj.2 ++ [wi ++ lj]).length c99))
              have m_HB := Aside0.mk (HB.out.setCell (p := ⟨gm, 2, none⟩) GE.out.1 (.slice A99 (sj.2 ++ [wi ++ lj]).length c99))
              have m_BX := Aside0.mk (blk_put BX.out 2 (.slice A99 (sj.2 ++ [wi ++ lj]).length c99) (cs' := #[.pointer (some ⟨g, 0, none⟩), .slice A82 (sj.1 ++ [mN]).length c82, .slice A99 (sj.2 ++ [wi ++ lj]).length c99, .map (some gM)]) rfl)
              clear R82 R99 LT MP HB BX
              have R82 := m_R82
              have R99 := m_R99
              have LT := m_LT
              have MP := m_MP
              have HB := m_HB
              have BX := m_BX
              clear m_R82 m_R99 m_LT m_MP m_HB m_BX
              clear gne_
              refine hK.out _ _ ?_
              clear hK K
              generalize w11.setCell ⟨gm, 2, none⟩ (.slice A99 (sj.2 ++ [wi ++ lj]).length c99) = w12 at R82 R99 LT MP HB BX ⊢
              refine done_ (done_of HT_.out (by kernel_rfl)) ?_
              go_wp2_with fail
              go_roundw
              case measure => simp [intOf]; omega
              case rel =>
                refine ⟨j + 1, .slice A82 (sj.1 ++ [mN]).length c82, .slice A99 (sj.2 ++ [wi ++ lj]).length c99, by go_num, ⟨by omega⟩, ⟨by rw [HE.out, List.length_append, List.length_singleton]; omega⟩, ⟨?_⟩, ⟨LT.out⟩, ⟨HB.out⟩⟩
                rw [HE.out, ← HLj.out, ← HWi.out]
                exact ⟨BX.out, GE.out, R82.out, R99.out, _, by rw [List.length_append, List.length_singleton]; exact MP.out, dok_put h4 hDok HInvJ.out.good HGN.out HMem.out⟩
        · obtain rfl : j = 4 := by omega
          go_wp2_with fail
          go_roundw
          case measure => simp [intOf]; omega
          case rel =>
            have e : rounds x (i + 1) = rnd x i st 4 := by rw [HSt.out]; rfl
            exact ⟨i + 1, vm, vw, by go_num, ⟨hd_succ HH.out (by rw [← HSt.out]; exact hlt) (by rw [e]; exact HL.out)⟩, ⟨by rw [e]; exact HMon.out⟩, ⟨HB.out⟩⟩
    · go_wp2_with fail
      go_ret2
      exact .inr ⟨st, gm, gM, _, _, by rw [HSt.out]; exact fin_done HH.out (by rw [← HSt.out]; exact hlt), rfl, HMon.out, HB.out⟩
end Go.Proofs.Ytefoaikfpegggaa.ImplMonoid
