/- What is proved: how an array of four numbers reads as a map's key, what the map from arrays to numbers says, and its laws at the operation. Conditions: as each states. -/
import Derived.Test.YtefoaikfpegggaaImplSame
import Derived.Maps.OwnSet
import Derived.WideKeyArr2
import Derived.DeepKeys4
import Derived.StillTailTactics
namespace Go.Proofs.Ytefoaikfpegggaa.MapKey
open Go.RowKit Go.Proofs.YtefoaikfpegggaaW.PrintWords Go.Proofs.YtefoaikfpegggaaW.PrintLast Go.Proofs.YtefoaikfpegggaaW.PrintMore Go.Proofs.Ytefoaikfpegggaa.Mine Go.Proofs.Ytefoaikfpegggaa.Closures Go.Proofs.Ytefoaikfpegggaa.ValidB Go.Proofs.Ytefoaikfpegggaa.SpecAll Go.Proofs.Ytefoaikfpegggaa.PureKit Go.Proofs.Ytefoaikfpegggaa.PureMaps Go.Proofs.Ytefoaikfpegggaa.PureSpec Go.Proofs.Ytefoaikfpegggaa.ImplSame
open Go.Maps (Keyed)
open Go.WideMaps (ArrKey)

theorem arrK : ArrKey Try.prog 80 2 4 := ⟨Try.underlying80, by kernel_rfl, by kernel_rfl, by kernel_rfl⟩
theorem law : Keyed Try.prog 80 := Keyed.of_law arrK.law
theorem typesPos : ∃ m, Try.prog.types.size = m + 1 := ⟨Try.prog.types.size - 1, by have : 0 < Try.prog.types.size := of_decide_eq_true (by kernel_rfl); omega⟩
/-- A map's key. -/
def kl4 (l : List Int) : Lit := .string (keyBytes [.int .i64 (rd l 0), .int .i64 (rd l 1), .int .i64 (rd l 2), .int .i64 (rd l 3)])
theorem wf_small {a : Int} (h : 0 ≤ a ∧ a < 1000) : (Lit.int .i64 a).wf = true := WalkArith.wf_i64 (by omega)
theorem keyOf4 {l : List Int} (h0 : (Lit.int .i64 (rd l 0)).wf = true) (h1 : (Lit.int .i64 (rd l 1)).wf = true) (h2 : (Lit.int .i64 (rd l 2)).wf = true) (h3 : (Lit.int .i64 (rd l 3)).wf = true) : keyOf Try.prog 80 (arr4 l) = some (kl4 l) := by
  obtain ⟨m, hm⟩ := typesPos
  have hkt := arrK.keyType typesPos
  unfold keyOf arr4
  simp only [Try.underlying80]
  rw [if_pos (by simp [hkt, Value.formed, Try.underlying80, arrK.size]), hm]
  unfold Program.keyLits
  simp only [Try.underlying80, Value.cells]
  rw [if_pos (by rw [arrK.size]; rfl)]
  have e2 : ∀ n, (Lit.int .i64 n).wf = true → Try.prog.keyLits (m + 1) 2 [.int .i64 n] = some [.int .i64 n] := fun n hn => by
    unfold Program.keyLits
    simp [Try.underlying2, hn]
  have e3 : Try.prog.cellsOf 2 = 1 := arrK.one
  simp [List.range, List.range.loop, e3, e2, h0, h1, h2, h3, kl4]

theorem good_rd {x : List (List Int)} {l : List Int} (h4 : x.length ≤ 4) (h : PureMaps.Good x l) (i : Int) (hi : 0 ≤ i) : 0 ≤ rd l i ∧ rd l i < 1000 := by
  by_cases h1 : i < (l.length : Int)
  · have := h.ran _ (rd_mem hi h1)
    omega
  · have : rd l i = 0 := by simp [rd, List.getD_eq_getElem?_getD, List.getElem?_eq_none (show l.length ≤ i.toNat by omega)]
    omega
theorem keyGood {x : List (List Int)} {l : List Int} (h4 : x.length ≤ 4) (h : PureMaps.Good x l) : keyOf Try.prog 80 (arr4 l) = some (kl4 l) :=
  keyOf4 (wf_small (good_rd h4 h 0 (by omega))) (wf_small (good_rd h4 h 1 (by omega))) (wf_small (good_rd h4 h 2 (by omega))) (wf_small (good_rd h4 h 3 (by omega)))
theorem kl4_inj {x : List (List Int)} {l l' : List Int} (h4 : x.length ≤ 4) (h : PureMaps.Good x l) (h' : PureMaps.Good x l') (e : kl4 l = kl4 l') : l = l' := by
  have h1 := keyGood h4 h
  have h2 := keyGood h4 h'
  rw [e] at h1
  have h3 := law.inj h1 h2
  unfold arr4 at h3
  injection h3 with h3
  have h5 := congrArg Array.toList h3
  simp only [List.cons.injEq, Value.int.injEq, true_and, and_true] at h5
  obtain ⟨e0, e1, e2, e3⟩ := h5
  have hl := h.len
  have hl' := h'.len
  refine eq_of_rd (by omega) (fun j hj => ?_)
  have : j = 0 ∨ j = 1 ∨ j = 2 ∨ j = 3 := by omega
  rcases this with rfl | rfl | rfl | rfl
  · exact e0
  · exact e1
  · exact e2
  · exact e3

/-- The dictionary has just the maps of the list, each at its number. -/
structure DOk (x : List (List Int)) (D : DataW Unit) (ms : List (List Int)) : Prop where
  isMap : Go.Maps.IsMap D
  has : ∀ l, PureMaps.Good x l → Go.Maps.has D (kl4 l) = mem ms l
  at_ : ∀ (j : Nat) (h : j < ms.length), D.atKey (kl4 ms[j]) (.lit (.int .i64 0)) = .lit (.int .i64 j)
theorem isKey (l : List Int) : WideAt.IsKeyLit (kl4 l) := trivial
theorem dok_put {x : List (List Int)} {D : DataW Unit} {ms : List (List Int)} (h4 : x.length ≤ 4) (h : DOk x D ms) (hg : ∀ m ∈ ms, PureMaps.Good x m) {m : List Int} (hm : PureMaps.Good x m) (hn : mem ms m = false) :
    DOk x (D.put (kl4 m) (.lit (.int .i64 (ms.length : Int)))) (ms ++ [m]) where
  isMap := h.isMap.put _ _
  has := fun l hl => by
    have e : mem (ms ++ [m]) l = (mem ms l || (m == l)) := by simp [mem, List.any_append]
    rw [e]
    by_cases hlm : l = m
    · subst hlm
      rw [Go.Maps.has_put_same h.isMap (isKey _)]
      simp
    · rw [Go.Maps.has_put_other (fun e => hlm (kl4_inj h4 hl hm e)), h.has l hl]
      have : (m == l) = false := by simpa using fun e => hlm (by rw [e])
      rw [this, Bool.or_false]
  at_ := fun j hj => by
    rw [List.length_append, List.length_singleton] at hj
    rcases Nat.lt_or_ge j ms.length with h1 | h1
    · have e : (ms ++ [m])[j] = ms[j] := List.getElem_append_left h1
      rw [e, Go.Maps.atKey_put_other (fun e => ?_)]
      · exact h.at_ j h1
      · have e2 := kl4_inj h4 (hg _ (List.getElem_mem h1)) hm e
        have : mem ms m = true := mem_iff.2 (e2 ▸ List.getElem_mem h1)
        rw [hn] at this
        cases this
    · obtain rfl : j = ms.length := by omega
      have e : (ms ++ [m])[ms.length] = m := by simp
      rw [e, Go.Maps.atKey_put_same h.isMap (isKey _)]
theorem dok_empty {x : List (List Int)} : DOk x (.map []) [] := ⟨Go.Maps.isMap_empty, fun l _ => rfl, fun j hj => by simp at hj⟩

/-- A map literal's entry. -/
theorem wpList_insert {H : Type} {P : Program} {w : World} {ops : Array Oper} {rest : List Oper} {o : Oper} {a : Act} {Q : Exit → Act → World → Prop} (hg : o.guard = none) (m x v : Operand) (t : TypeId) (hop : o.op = Op.insert t m x v)
    (k e : TypeId) (K : Keyed P k) (ht : P.underlying t = some (.map k e)) (R : Value → Option (DataW H × List MemPlace)) (b n : Nat) (D : DataW H)
    (hm : a.eval m = .map (some b)) (hown : w.ownsMap P k R b n D) (hn : n < maxLen) (key val : Value) (kl : Lit) (hx : a.eval x = key) (hv : a.eval v = val) (hkey : keyOf P k key = some kl)
    (d : DataW H) (ps : List MemPlace) (hval : R val = some (d, ps))
    (hK : ∀ w', w'.ownsMap P k R b (n + 1) (D.put kl d) → w.mapTurned w' b → wpList P ops Q rest (a.put o.dst undef) w') :
    wpList P ops Q (o :: rest) a w := by
  refine wpList_plain hg fun K' hK' => ?_
  obtain ⟨w', hrun, r1, r2⟩ := hown.store K ht hn hkey hval
  unfold Oper.wp
  simp [execOp, hop, hm, hx, hv, hrun, Result.andThen]
  exact hK' _ _ (hK w' r1 r2)

/-- Four cells as one element of a row. -/
def pad4 (l : List Int) : List Int := [rd l 0, rd l 1, rd l 2, rd l 3]
def K4 : Kd (List Int) := Kd.iso (Kd.arr 4 (Kd.int .i64) (by decide)) pad4
def cs4 (l : List Int) : List Value := [.int .i64 (rd l 0), .int .i64 (rd l 1), .int .i64 (rd l 2), .int .i64 (rd l 3)]
theorem K4_sz : K4.sz = 4 := rfl
theorem K4_E : K4.E = [] := rfl
theorem K4_M (w : World) (base : Nat) (ok : Nat → Prop) (l : List Int) : K4.M w base ok l (cs4 l) := Kd.arr_of_cells (n := 4) (enc := Value.int .i64) (h1 := fun _ => rfl) (hs := by decide) (xs := pad4 l) rfl
theorem K4_cells {w : World} {l : List Int} {cs : List Value} (h : K4.K w l cs) : cs = cs4 l := (Kd.arr_cells (n := 4) (enc := Value.int .i64) (h1 := fun _ => rfl) (hs := by decide) (xs := pad4 l) h).2
theorem K4_one (w : World) (base : Nat) (ok : Nat → Prop) (l : List Int) : Reps (K4.M w base ok) K4.sz [l] (cs4 l) := ⟨rfl, fun j p hj => by
  have hj0 : j = 0 := by
    have := (List.getElem?_eq_some_iff.1 hj).1
    simpa using this
  subst hj0
  obtain rfl : l = p := by simpa using hj
  exact K4_M _ _ _ _⟩
theorem info80 : (Try.prog.info? 80).map (fun i => (i.zero, i.size, i.bytes)) = some (some (.agg #[.int .i64 0, .int .i64 0, .int .i64 0, .int .i64 0]), K4.sz, 32) := by kernel_rfl
/-- An element of a row of maps. -/
theorem at_K4 {w : World} {A : Option Addr} {n : Nat} {ms : List (List Int)} (h : K4.C w A n ms) (i : Int) (h0 : 0 ≤ i) (h1 : i < n) : ∃ ad, A = some ad ∧ ∀ j : Nat, j < 4 → w.cell? (ad.add (i.toNat * 4 + j)) = some (.int .i64 (rd (rdL ms i) j)) := by
  obtain ⟨ad, c, e, _, hK, hc⟩ := Kd.C_get h ([] : List Int) i h0 h1
  refine ⟨ad, e, fun j hj => ?_⟩
  have e2 := K4_cells hK
  have h2 := hc j (.int .i64 (rd (rdL ms i) j))
  rw [e2, K4_sz] at h2
  apply h2
  have : j = 0 ∨ j = 1 ∨ j = 2 ∨ j = 3 := by omega
  rcases this with rfl | rfl | rfl | rfl <;> rfl
/-- A row is none of a map's block. -/
theorem R_ne_map {α : Type} {d : Kd α} {e base : Nat} {ok : Nat → Prop} {w : World} {v : Value} {xs : List α} (h : d.R e w base ok v xs) {b : Nat} {es : Array MapEntry} {clock : Nat} (hb : w.heap[b]? = some (.map es clock)) : some b ≠ v.ownBlock := fun he => by
  obtain ⟨cells, hc⟩ := Kd.R_typed h b he.symm
  rw [hb] at hc
  cases hc
/-- .. so it stays while the map is written. -/
theorem R_turned {α : Type} {d : Kd α} {e base : Nat} {ok : Nat → Prop} {w w' : World} {v : Value} {xs : List α} (h : d.R e w base ok v xs) (hE : d.E = []) {b : Nat} (ht : w.mapTurned w' b) : d.R e w' base ok v xs := by
  have ht' := ht
  obtain ⟨es, clock, es', clock', hb, _⟩ := ht'
  exact Kd.R_grown1 h hE ht.grown (R_ne_map h hb)
theorem blk_turned {w w' : World} {b g : Nat} {cs : Array Value} {t : TypeId} (h : w.heap[g]? = some (.cells cs t (0, 0))) (ht : w.mapTurned w' b) : w'.heap[g]? = some (.cells cs t (0, 0)) := by
  have ht' := ht
  obtain ⟨es, clock, es', clock', hb, _⟩ := ht'
  refine blk_grown h ht.grown (fun e => ?_)
  obtain rfl := Option.some.inj e
  rw [hb] at h
  cases h
/-- The map stays while a row is written. -/
theorem map_grown {H α : Type} {d : Kd α} {e base : Nat} {ok : Nat → Prop} {w w' : World} {v : Value} {xs : List α} {P : Program} {k : TypeId} {R : Value → Option (DataW H × List MemPlace)} {b n : Nat} {D : DataW H} (h : w.ownsMap P k R b n D) (hv : d.R e w base ok v xs) (hg : w.grownBy w' v.ownBlock) : w'.ownsMap P k R b n D := by
  have h' := h
  obtain ⟨es, clock, hb, _⟩ := h'
  exact h.kept hg (R_ne_map hv hb)
theorem map_below {H : Type} {w w' : World} {P : Program} {k : TypeId} {R : Value → Option (DataW H × List MemPlace)} {b n : Nat} {D : DataW H} (h : w.ownsMap P k R b n D) (hg : Below w.heap.size w w') : w'.ownsMap P k R b n D := h.kept (grown_of_below hg none) (by simp)
theorem cell_any {w : World} {g : Nat} {cs : Array Value} {t : TypeId} {fr : Nat × Nat} (h : w.heap[g]? = some (.cells cs t fr)) (i : Nat) : w.cell? ⟨g, i, none⟩ = cs[i]? := by simp [World.cell?, h]
theorem zero2 (w : World) : (zeroValue 2).run Try.prog w = .ok (.int .i64 0) w := by kernel_rfl
/-- 'v, ok := m[k]', however many draws have been made. -/
theorem look_run {x : List (List Int)} {W : World} {gM n : Nat} {D : DataW Unit} {ms : List (List Int)} (h4 : x.length ≤ 4) (hD : W.ownsMap Try.prog 80 (plainElem Try.prog 2) gM n D) (hok : DOk x D ms) {l : List Int} (hl : PureMaps.Good x l) :
    ∃ c : Int, ∀ m, (Instr.lookup 68 (.map (some gM)) (.agg #[.int .i64 (rd l 0), .int .i64 (rd l 1), .int .i64 (rd l 2), .int .i64 (rd l 3)]) true).run Try.prog (W.drewN m) = .ok (.tuple #[.int .i64 c, .bool (mem ms l)]) (W.drewN m) := by
  have key : ∀ m, ∃ c : Int, (Instr.lookup 68 (.map (some gM)) (arr4 l) true).run Try.prog (W.drewN m) = .ok (.tuple #[.int .i64 c, .bool (mem ms l)]) (W.drewN m) ∧ D.atKey (kl4 l) (.lit (.int .i64 0)) = .lit (.int .i64 c) := by
    intro m
    have hDm : (W.drewN m).ownsMap Try.prog 80 (plainElem Try.prog 2) gM n D := map_below hD (pw_below_drewN (Below.refl _ _) m)
    obtain ⟨v, ps, hrun, hv⟩ := hDm.look_ok law Try.underlying68 (zero2 _) (plainElem_int Try.underlying2 (by decide)) (keyGood h4 hl)
    obtain ⟨c, rfl, hc, _⟩ := plainElem_int_inv Try.underlying2 hv
    rw [hok.has l hl] at hrun
    exact ⟨c, hrun, congrArg Prod.fst hc⟩
  obtain ⟨c, _, hc⟩ := key 0
  refine ⟨c, fun m => ?_⟩
  obtain ⟨c', hrun, hc'⟩ := key m
  rw [hc] at hc'
  injection hc' with hc'
  injection hc' with _ hc'
  rw [hc']
  exact hrun
/-- 'm[k]' of a key that is there. -/
theorem look_at {x : List (List Int)} {W : World} {gM n : Nat} {D : DataW Unit} {ms : List (List Int)} (h4 : x.length ≤ 4) (hD : W.ownsMap Try.prog 80 (plainElem Try.prog 2) gM n D) (hok : DOk x D ms) (hn : ms.Nodup) {l : List Int} (hl : PureMaps.Good x l) (hm : l ∈ ms) :
    ∀ m, (Instr.lookup 68 (.map (some gM)) (.agg #[.int .i64 (rd l 0), .int .i64 (rd l 1), .int .i64 (rd l 2), .int .i64 (rd l 3)]) false).run Try.prog (W.drewN m) = .ok (.int .i64 (idx ms l)) (W.drewN m) := by
  intro m
  have hDm : (W.drewN m).ownsMap Try.prog 80 (plainElem Try.prog 2) gM n D := map_below hD (pw_below_drewN (Below.refl _ _) m)
  obtain ⟨c, hrun, hat, _⟩ := hDm.lookup_int law Try.underlying68 Try.underlying2 (zero2 _) (keyGood h4 hl)
  obtain ⟨j, hj, rfl⟩ := List.mem_iff_getElem.1 hm
  rw [hok.at_ j hj] at hat
  injection hat with hat
  injection hat with _ hat
  rw [idx_at hj hn, hat]
  exact hrun
/-- A region whose first n operations only read: what follows stands in a world of its own name. -/
theorem still_tail {P : Program} {id : Nat} {Q : Exit → Act → World → Prop} {a : Act} {w : World} {l : List Oper} (n : Nat) (hm : P.follows .mixedOrders = true) (hB : Region.lexTailB .any l.toArray n = true)
    (h : ∀ w2, w2 = w.drew → wpStill P l.toArray w2 (fun a' => wpList P l.toArray Q (l.drop n) a' w2) (l.take n) a) : (Code.region id l.toArray true).wp P Q a w := wp_region_still_tail n hm hB (h w.drew rfl)
theorem addl_known {x : List (List Int)} {i : Nat} {st : St} {c : Nat} (h : mem st.1 (bh x (rdL st.1 i) c) = true) : addl x i st c = st := by unfold addl; rw [if_pos h]
theorem addl_new {x : List (List Int)} {i : Nat} {st : St} {c : Nat} (h : mem st.1 (bh x (rdL st.1 i) c) = false) : addl x i st c = (st.1 ++ [bh x (rdL st.1 i) c], st.2 ++ [rdOf ByteArray.empty st.2 i ++ lett c]) := by unfold addl; rw [h, if_neg (by decide)]
theorem any_turned {w w' : World} {b g : Nat} {cs : Array Value} {t : TypeId} {fr : Nat × Nat} (h : w.heap[g]? = some (.cells cs t fr)) (ht : w.mapTurned w' b) : w'.heap[g]? = some (.cells cs t fr) := by
  have ht' := ht
  obtain ⟨es, clock, es', clock', hb, _⟩ := ht'
  refine blk_grown h ht.grown (fun e => ?_)
  obtain rfl := Option.some.inj e
  rw [hb] at h
  cases h
/-- A block of another type than the row's stays while the row is written. -/
theorem any_over {α : Type} {d : Kd α} {e base : Nat} {ok : Nat → Prop} {w w' : World} {v : Value} {xs : List α} {g : Nat} {cs : Array Value} {t : TypeId} {fr : Nat × Nat} (h : w.heap[g]? = some (.cells cs t fr)) (hv : d.R e w base ok v xs) (ht : t ≠ e) (hg : w.grownBy w' v.ownBlock) : w'.heap[g]? = some (.cells cs t fr) := by
  refine blk_grown h hg (fun he => ?_)
  obtain ⟨cells, hc⟩ := Kd.R_typed hv g he.symm
  rw [h] at hc
  injection hc with hc
  injection hc with _ hc
  exact ht hc
/-- A store into a block of another type. -/
theorem R_set {α : Type} {d : Kd α} {e base : Nat} {W : World} {v : Value} {xs : List α} (h : d.R e W base (fun _ => True) v xs) (hE : d.E = []) {g t : Nat} {cs : Array Value} (hb : W.heap[g]? = some (.cells cs t (0, 0))) (ht : e ≠ t) (o : Nat) (u : Value) : d.R e (W.setCell ⟨g, o, none⟩ u) base (fun _ => True) v xs :=
  Kd.R_mono (Kd.R_far (Kd.R_far1 h hE (Kd.R_ne h hb ht)) (p := ⟨g, o, none⟩) (fun _ hk => hk.2) u) (fun _ _ => trivial)
theorem any_set {W : World} {g g' t t' : Nat} {cs cs' : Array Value} {fr : Nat × Nat} (h : W.heap[g]? = some (.cells cs t fr)) (hb : W.heap[g']? = some (.cells cs' t' (0, 0))) (ht : t ≠ t') (o : Nat) (u : Value) : (W.setCell ⟨g', o, none⟩ u).heap[g]? = some (.cells cs t fr) := by
  refine (Below.heap_setCell W ⟨g', o, none⟩ u g (fun e => ?_)).trans h
  have e : g = g' := e
  subst e
  rw [h] at hb
  injection hb with hb
  injection hb with _ hb
  exact ht hb
theorem ne_of_map {H : Type} {w : World} {P : Program} {k : TypeId} {R : Value → Option (DataW H × List MemPlace)} {b n : Nat} {D : DataW H} (h : w.ownsMap P k R b n D) {g : Nat} {cs : Array Value} {t : TypeId} {fr : Nat × Nat} (hb : w.heap[g]? = some (.cells cs t fr)) : b ≠ g := by
  obtain ⟨es, clock, hm, _⟩ := h
  rintro rfl
  rw [hm] at hb
  cases hb
theorem word_at {w : World} {base gw n c : Nat} {ok : Nat → Prop} {ws : List ByteArray} (h : Kd.R Kd.string 9 w base ok (.slice (some ⟨gw, 0, none⟩) n c) ws) {i : Nat} (hi : i < ws.length) : w.cell? ⟨gw, i, none⟩ = some (.string (rdOf ByteArray.empty ws i)) := by
  obtain ⟨ad, e, hq⟩ := Kd.at_string (Kd.R_reads' h).2.2 (i : Int) (by omega) (by have := (Kd.R_reads' h).1; omega)
  cases e
  rw [add_plain, Int.toNat_natCast] at hq
  exact hq
theorem enc_lett {j : Nat} (hj : j < 4) : Utf8.encode (wrap32 (97 + (j : Int))) = lett j := by
  have : j = 0 ∨ j = 1 ∨ j = 2 ∨ j = 3 := by omega
  rcases this with rfl | rfl | rfl | rfl <;> simp [wrap32, Utf8.encode, Utf8.valid, lett, strOfNums]
end Go.Proofs.Ytefoaikfpegggaa.MapKey
