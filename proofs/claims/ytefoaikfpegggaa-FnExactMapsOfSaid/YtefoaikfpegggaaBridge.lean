/- What is proved: a value that a row has read off memory (DataW.trod) is of the printed kind of its type (Kd), and keeps within the row's reach. Conditions: the type's description, as closed facts. -/
import Derived.Test.YtefoaikfpegggaaWMore
import Derived.ChangeArms
import Derived.SizedLaws
namespace Go.Proofs.Ytefoaikfpegggaa.Bridge
open Go.RowKit Go.Proofs.YtefoaikfpegggaaW.PrintWords

/-- The cells of a run of memory, one by one. -/
theorem cells_get {w : World} {base : Nat} {a : Addr} {n : Nat} {cs : List Value} (h : w.cells? base a n = some cs) :
    cs.length = n ∧ ∀ i u, cs[i]? = some u → w.cell? (a.add i) = some u := by
  obtain ⟨_, hl, hc⟩ := World.cells?_some h
  refine ⟨hl, fun i u hu => ?_⟩
  have hi : i < n := by
    have := (List.getElem?_eq_some_iff.1 hu).1
    omega
  rw [hc i hi, hu]

/-- A value of type t that has been read is of the kind d; 'ok' is what its size tells. -/
structure Br (P : Program) (t : TypeId) {α : Type} (d : Kd α) (ok : α → Prop) : Prop where
  sz : P.cellsOf t = d.sz
  go : ∀ {H : Type} {enc : TypeId × Value → H} {w : World} {fuel : Nat} {cs : List Value} {x : DataW H × List MemPlace},
    DataW.trod enc P w 0 (fun _ => true) true fuel t cs = some x → (∀ n ∈ x.1.weights P t, n ≤ reachBytes) → ∃ a, d.K w a cs ∧ ok a

theorem Br.int {P : Program} {t : TypeId} {k : IntKind} (hu : P.underlying t = some (.int k)) (hc : P.cellsOf t = 1) : Br P t (Kd.int k) (fun a => (Lit.int k a).wf = true) where
  sz := hc
  go := by
    intro H enc w fuel cs x h _
    obtain ⟨n, rfl, _, hw⟩ := DataW.trod_int hu h
    exact ⟨n, rfl, hw⟩
theorem Br.bool {P : Program} {t : TypeId} (hu : P.underlying t = some .bool) (hc : P.cellsOf t = 1) : Br P t Kd.bool (fun _ => True) where
  sz := hc
  go := by
    intro H enc w fuel cs x h _
    obtain ⟨n, rfl, _⟩ := DataW.trod_bool hu h
    exact ⟨n, rfl, trivial⟩
theorem Br.string {P : Program} {t : TypeId} (hu : P.underlying t = some .string) (hc : P.cellsOf t = 1) : Br P t Kd.string (fun s => s.size ≤ reachBytes) where
  sz := hc
  go := by
    intro H enc w fuel cs x h hz
    obtain ⟨s, rfl, rfl, _⟩ := DataW.trod_string hu h
    refine ⟨s, rfl, ?_⟩
    have := hz s.data.toList.length (by simp [DataW.weights])
    simpa using this

theorem weightsAll_mem {H : Type} {P : Program} {e : TypeId} {y : DataW H} {n : Nat} : ∀ {l : List (DataW H)}, y ∈ l → n ∈ y.weights P e → n ∈ DataW.weightsAll P e l
  | z :: l, hy, hn => by
    simp only [DataW.weightsAll, List.mem_append]
    rcases List.mem_cons.1 hy with rfl | hy
    · exact .inl hn
    · exact .inr (weightsAll_mem hy hn)

/-- A choice for each place of a list. -/
theorem list_of {α : Type} (p : Nat → α → Prop) : ∀ n : Nat, (∀ i, i < n → ∃ a, p i a) → ∃ l : List α, l.length = n ∧ ∀ i a, l[i]? = some a → p i a
  | 0, _ => ⟨[], rfl, fun i a h => by simp at h⟩
  | n + 1, h => by
    obtain ⟨l, hl, hp⟩ := list_of p n (fun i hi => h i (by omega))
    obtain ⟨a, ha⟩ := h n (by omega)
    refine ⟨l ++ [a], by simp [hl], fun i b hb => ?_⟩
    rcases Nat.lt_or_ge i n with hi | hi
    · rw [List.getElem?_append_left (by omega)] at hb
      exact hp i b hb
    · have hi2 : i = n := by
        have := (List.getElem?_eq_some_iff.1 hb).1
        simp at this
        omega
      subst hi2
      rw [List.getElem?_append_right (by omega), hl, Nat.sub_self] at hb
      simp only [List.getElem?_cons_zero, Option.some.injEq] at hb
      subst hb
      exact ha

theorem Br.slice {P : Program} {t e : TypeId} {α : Type} {d : Kd α} {ok : α → Prop} (hu : P.underlying t = some (.slice e)) (hc : P.cellsOf t = 1) {B : Nat} (hB : P.bytesOf e = B) (hd : Br P e d ok) :
    Br P t (Kd.slice e d) (fun xs => xs.length * B ≤ reachBytes ∧ ∀ x ∈ xs, ok x) where
  sz := hc
  go := by
    intro H enc w fuel cs x h hz
    rcases DataW.trod_slice hu h with ⟨rfl, rfl⟩ | ⟨a, len, cap, elems, rest, n, _, rfl, rfl, _, hlc, hcap, hel, hget, _, _⟩
    · exact ⟨[], ⟨none, 0, rfl, Nat.le_refl _, ⟨rfl, by simp, fun h => by simp at h⟩⟩, by simp, by simp⟩
    · have hone : ∀ i, i < len → ∃ b, ok b ∧ ∃ c, c.length = d.sz ∧ d.K w b c ∧ ∀ j u, c[j]? = some u → w.cell? (a.add (i * d.sz + j)) = some u := by
        intro i hi
        have h1 := hget i hi
        have h2 : elems[i]? = some (elems[i]'(by omega)) := List.getElem?_eq_getElem (by omega)
        rw [h2, Option.bind_eq_some_iff] at h1
        obtain ⟨c, hcells, htrod⟩ := h1
        obtain ⟨hl, hcell⟩ := cells_get hcells
        obtain ⟨b, hK, hok⟩ := hd.go htrod (by
          intro m hm
          refine hz m ?_
          simp only [DataW.weights, hu, List.mem_cons, List.mem_append]
          exact .inr (.inl (weightsAll_mem (List.mem_map_of_mem (List.getElem_mem (by omega))) hm)))
        refine ⟨b, hok, c, by rw [hl, hd.sz], hK, fun j u hju => ?_⟩
        have := hcell j u hju
        rw [Addr.add_add, hd.sz] at this
        exact this
      obtain ⟨l, hl, hp⟩ := list_of _ len hone
      have hmax : len ≤ 9223372036854775807 := by
        unfold maxLen at hcap
        omega
      refine ⟨l, ⟨some a, cap, by rw [hl], by omega, ⟨rfl, by omega, fun _ => ⟨a, rfl, fun j p hj => (hp j p hj).2⟩⟩⟩, ?_, fun b hb => ?_⟩
      · have h3 := hz ((elems.length + rest.length) * P.bytesOf e) (by simp [DataW.weights, hu])
        rw [hB] at h3
        refine Nat.le_trans (Nat.mul_le_mul_right _ ?_) h3
        omega
      · obtain ⟨i, hi⟩ := List.mem_iff_getElem?.1 hb
        exact (hp i b hi).1

/-- The fields of a struct from one on: each begins where the one before it ends. -/
structure Fs (P : Program) (fs : List Field) (off : Nat) {α : Type} (d : Kd α) (ok : α → Prop) : Prop where
  go : ∀ {H : Type} {enc : TypeId × Value → H} {w : World} {fuel : Nat} {cs : List Value} {xs : List (DataW H × List MemPlace)}, xs.length = fs.length → off + d.sz ≤ cs.length →
    (∀ (i : Nat) (f : Field), fs[i]? = some f → DataW.trod enc P w 0 (fun _ => true) true fuel f.type ((cs.drop f.offset).take (P.cellsOf f.type)) = xs[i]?) →
    (∀ n ∈ DataW.weightsEach P (fs.map (·.type)) (xs.map (·.1)), n ≤ reachBytes) → ∃ a, d.K w a ((cs.drop off).take d.sz) ∧ ok a

theorem Fs.one {P : Program} {f : Field} {α : Type} {d : Kd α} {ok : α → Prop} {off : Nat} (ho : f.offset = off) (hd : Br P f.type d ok) : Fs P [f] off d ok where
  go := by
    intro H enc w fuel cs xs hl _ hget hz
    match xs, hl with
    | [x], _ =>
      have h1 := hget 0 f rfl
      rw [ho, hd.sz] at h1
      exact hd.go h1 (fun n hn => hz n (by simp [DataW.weightsEach, hn]))

theorem Fs.cons {P : Program} {f : Field} {fs : List Field} {α β : Type} {d : Kd α} {d1 : Kd β} {ok : α → Prop} {ok1 : β → Prop} {off off1 : Nat} (ho : f.offset = off) (hd : Br P f.type d ok) (hoff : off1 = off + d.sz) (hr : Fs P fs off1 d1 ok1) :
    Fs P (f :: fs) off (Kd.pair d d1) (fun x => ok x.1 ∧ ok1 x.2) where
  go := by
    intro H enc w fuel cs xs hl hlen hget hz
    match xs, hl with
    | x :: xs, hl =>
      have h1 := hget 0 f rfl
      rw [ho, hd.sz] at h1
      obtain ⟨a, ha, hok⟩ := hd.go h1 (fun n hn => hz n (by simp [DataW.weightsEach, hn]))
      have hlen' : off + (d.sz + d1.sz) ≤ cs.length := hlen
      obtain ⟨b, hb, hok1⟩ := hr.go (cs := cs) (xs := xs) (by simpa using hl) (by omega) (fun i g hg => by simpa using hget (i + 1) g (by simpa using hg)) (fun n hn => hz n (by
        simp only [List.map_cons, DataW.weightsEach, List.mem_append]
        exact .inr hn))
      refine ⟨(a, b), ⟨_, _, ?_, ha, hb⟩, hok, hok1⟩
      show (cs.drop off).take (d.sz + d1.sz) = _
      rw [List.take_add, List.drop_drop, hoff]

/-- A struct, by its fields. -/
theorem Br.struct {P : Program} {t : TypeId} {fs : Array Field} {α : Type} {d : Kd α} {ok : α → Prop} (hu : P.underlying t = some (.struct fs)) (hc : P.cellsOf t = d.sz) (hf : Fs P fs.toList 0 d ok) : Br P t d ok where
  sz := hc
  go := by
    intro H enc w fuel cs x h hz
    obtain ⟨xs, n, _, rfl, hl, hxl, hget⟩ := DataW.trod_struct hu h
    obtain ⟨a, ha, hok⟩ := hf.go (cs := cs) (xs := xs) (by simpa using hxl) (by omega) (fun i f hi => hget i f (by simpa using hi)) (by
      intro m hm
      refine hz m ?_
      simp only [DataW.weights, hu]
      exact hm)
    refine ⟨a, ?_, hok⟩
    rw [List.drop_zero, List.take_of_length_le (by omega)] at ha
    exact ha

/-- A Lean structure in the place of the pairs. -/
theorem Br.iso {P : Program} {t : TypeId} {α β : Type} {d : Kd α} {ok : α → Prop} (hd : Br P t d ok) (f : β → α) (g : α → β) (hfg : ∀ a, f (g a) = a) : Br P t (Kd.iso d f) (fun b => ok (f b)) where
  sz := hd.sz
  go := by
    intro H enc w fuel cs x h hz
    obtain ⟨a, ha, hok⟩ := hd.go h hz
    refine ⟨g a, ?_, ?_⟩
    · show d.K w (f (g a)) cs
      rw [hfg]
      exact ha
    · rw [hfg]
      exact hok

theorem Br.imp {P : Program} {t : TypeId} {α : Type} {d : Kd α} {ok ok' : α → Prop} (hd : Br P t d ok) (hi : ∀ a, ok a → ok' a) : Br P t d ok' where
  sz := hd.sz
  go := by
    intro H enc w fuel cs x h hz
    obtain ⟨a, ha, hok⟩ := hd.go h hz
    exact ⟨a, ha, hi a hok⟩

/-- An argument of a call. -/
theorem Br.arg {P : Program} {t : TypeId} {α : Type} {d : Kd α} {ok : α → Prop} (hd : Br P t d ok) {H : Type} {enc : TypeId × Value → H} {w : World} {v : Value} {x : DataW H} {ps : List MemPlace} {ts : List TypeId} {ds : List (DataW H)} {j : Nat}
    (hsz : (DataW.weightsEach P ts ds).all (· ≤ reachBytes) = true) (ht : ts[j]? = some t) (hx : ds[j]? = some x) (h : DataW.Trod enc P w 0 (fun _ => true) true t v x ps) : ∃ a, d.K w a v.cells.toList ∧ ok a := by
  obtain ⟨fuel, hf⟩ := h
  refine hd.go hf (fun n hn => ?_)
  have := List.all_eq_true.1 hsz n (DataW.weights_mem_each ht hx n hn)
  simpa using this

end Go.Proofs.Ytefoaikfpegggaa.Bridge
