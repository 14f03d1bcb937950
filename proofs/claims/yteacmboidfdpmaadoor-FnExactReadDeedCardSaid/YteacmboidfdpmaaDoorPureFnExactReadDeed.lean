/- What is proved: the law FnExactReadDeed, as a statement over plain Lean values, comes to true. Conditions: as each theorem states. -/
import Derived.Test.YteacmboidfdpmaaDoorQFnExactReadDeedx3
import Derived.Test.YteacmboidfdpmaaDoorPureKit
import Derived.Lib.ItoaMem
namespace Go.Proofs.YteacmboidfdpmaaDoor.PureFnExactReadDeed
open Go.RowKit Go.Proofs.YteacmboidfdpmaaDoor.QFnExactReadDeed Go.Proofs.YteacmboidfdpmaaDoorW.PrintWords Go.Proofs.YteacmboidfdpmaaDoorW.PrintLast Go.Proofs.YteacmboidfdpmaaDoor.PureKit

theorem small_i (b : Int) (h0 : 0 ≤ b) (h1 : b ≤ 9223372036854775807) : wrap64 b = b := by unfold wrap64; omega
theorem append_lists (l m : List UInt8) : (⟨l.toArray⟩ : ByteArray) ++ (⟨m.toArray⟩ : ByteArray) = ⟨(l ++ m).toArray⟩ := by
  apply ByteArray.ext
  simp
theorem size_lists (l : List UInt8) : (⟨l.toArray⟩ : ByteArray).size = l.length := by simp [ByteArray.size]
theorem dec_len (u : Nat) (h : u ≤ 999) : (Lib.decDigits u).length ≤ 3 := by
  by_cases h1 : u < 10
  · rw [Lib.decDigits, dif_pos h1]; simp
  · rw [Lib.decDigits, dif_neg h1]
    by_cases h2 : u / 10 < 10
    · rw [Lib.decDigits, dif_pos h2]; simp
    · rw [Lib.decDigits, dif_neg h2]
      have h3 : u / 10 / 10 < 10 := by omega
      rw [Lib.decDigits, dif_pos h3]
      simp

/-- The word of a kind, and whether its text mentions the number. -/
def word (a : Int) : List UInt8 × Bool :=
  if a = 1 then ([103, 105, 118, 101], true) else if a = 2 then ([119, 111, 114, 107], true) else if a = 3 then ([100, 101, 108, 105, 118, 101, 114], true) else if a = 4 then ([99, 111, 112, 121], true) else if a = 5 then ([100, 114, 111, 112], true) else if a = 6 then ([115, 121, 110, 99], false) else if a = 7 then ([99, 114, 97, 115, 104], false) else if a = 8 then ([113, 117, 105, 116], true) else ([], false)
def okDeed (a b : Int) : Bool := decide (1 ≤ a ∧ a ≤ 8) && decide (0 ≤ b ∧ b ≤ 999) && ((word a).2 || b == 0)
def text (a b : Int) : List UInt8 :=
  if okDeed a b = true then (if (word a).2 = true then (word a).1 ++ [32] ++ Lib.decDigits b.toNat else (word a).1) else []
theorem kinds (a : Int) (h : 1 ≤ a ∧ a ≤ 8) : a = 1 ∨ a = 2 ∨ a = 3 ∨ a = 4 ∨ a = 5 ∨ a = 6 ∨ a = 7 ∨ a = 8 := by omega
theorem spec_ok (a b : Int) : spec_l08Deed.f a b = some (okDeed a b) := by
  unfold spec_l08Deed.f spec_l00In.f spec_l08Words.f okDeed
  by_cases h1 : 1 ≤ a ∧ a ≤ 8
  · have ha := kinds a h1
    by_cases h3 : 0 ≤ b ∧ b ≤ 999
    · obtain ⟨h3, h4⟩ := h3
      rcases ha with rfl | rfl | rfl | rfl | rfl | rfl | rfl | rfl <;> simp [h3, h4, rdOf, word]
    · by_cases h4 : 0 ≤ b
      · have h5 : ¬ b ≤ 999 := by omega
        rcases ha with rfl | rfl | rfl | rfl | rfl | rfl | rfl | rfl <;> simp [h4, h5]
      · rcases ha with rfl | rfl | rfl | rfl | rfl | rfl | rfl | rfl <;> simp [h4]
  · by_cases h2 : a ≥ 1
    · have h3 : ¬ a ≤ 8 := by omega
      simp [h2, h3]
    · have h4 : ¬ 1 ≤ a := by omega
      simp [h2]
theorem impl_word (a : Int) : impl_wordOf.f a = some (⟨(word a).1.toArray⟩, (word a).2) := by
  unfold impl_wordOf.f word
  repeat' split
  all_goals rfl
theorem no_word (a : Int) (h : ¬ (1 ≤ a ∧ a ≤ 8)) : word a = ([], false) := by
  unfold word
  rw [if_neg (by omega), if_neg (by omega), if_neg (by omega), if_neg (by omega), if_neg (by omega), if_neg (by omega), if_neg (by omega), if_neg (by omega)]
theorem impl_ok (a b : Int) : impl_ValidDeed.f a b = some (okDeed a b) := by
  unfold impl_ValidDeed.f okDeed
  rw [impl_word]
  unfold impl_in.f
  by_cases h1 : 1 ≤ a ∧ a ≤ 8
  · have ha := kinds a h1
    by_cases h3 : 0 ≤ b ∧ b ≤ 999
    · obtain ⟨h3, h4⟩ := h3
      rcases ha with rfl | rfl | rfl | rfl | rfl | rfl | rfl | rfl <;> simp [h3, h4, word]
    · by_cases h4 : 0 ≤ b
      · have h5 : ¬ b ≤ 999 := by omega
        rcases ha with rfl | rfl | rfl | rfl | rfl | rfl | rfl | rfl <;> simp [h4, h5, word]
      · rcases ha with rfl | rfl | rfl | rfl | rfl | rfl | rfl | rfl <;> simp [h4, word]
  · rw [no_word a h1]
    simp [h1]
theorem itoa_nat (b : Int) (h : 0 ≤ b) : Lib.itoa b = Lib.decDigits b.toNat := by
  unfold Lib.itoa
  rw [if_neg (by omega)]
theorem ok_of {a b : Int} (h : okDeed a b = true) : (1 ≤ a ∧ a ≤ 8) ∧ (0 ≤ b ∧ b ≤ 999) := by
  unfold okDeed at h
  rw [Bool.and_eq_true, Bool.and_eq_true, decide_eq_true_eq, decide_eq_true_eq] at h
  exact h.1
theorem word_len (a : Int) : (word a).1.length ≤ 7 := by
  unfold word
  repeat' split
  all_goals simp
theorem impl_text (a b : Int) : impl_DeedText.f a b = some ⟨(text a b).toArray⟩ := by
  unfold impl_DeedText.f text
  rw [impl_ok, impl_word]
  cases h : okDeed a b with
  | false => rfl
  | true =>
    have o := ok_of h
    cases hw : (word a).2 with
    | false => simp
    | true =>
      have d1 : -9223372036854775808 ≤ b ∧ b ≤ 9223372036854775807 := by omega
      have wl := word_len a
      have dl := dec_len b.toNat (by omega)
      simp only [Option.bind_some, if_true, impl_decimal.f, if_pos d1, itoa_nat b o.2.1, append_lists, size_lists, List.length_append, List.length_singleton]
      rw [if_pos (by omega), if_pos (by omega)]
theorem rd_word (a : Int) (h : 1 ≤ a ∧ a ≤ 8) : ∀ l1 l2, spec_l08Words.f = some (l1, l2) → (a < (l1.length : Int) ∧ a < (l2.length : Int)) ∧ rdOf ByteArray.empty l1 a = ⟨(word a).1.toArray⟩ ∧ rdOf false l2 a = (word a).2 := by
  intro l1 l2 hl
  unfold spec_l08Words.f at hl
  obtain ⟨rfl, rfl⟩ := Prod.mk.inj (Option.some.inj hl)
  have ha := kinds a h
  rcases ha with rfl | rfl | rfl | rfl | rfl | rfl | rfl | rfl <;> exact ⟨by decide, rfl, rfl⟩

/-! ### the numeral -/
theorem dec3 (u : Nat) (h : u ≤ 999) : Lib.decDigits u = (if u < 10 then [UInt8.ofNat (48 + u)] else if u < 100 then [UInt8.ofNat (48 + u / 10), UInt8.ofNat (48 + u % 10)] else [UInt8.ofNat (48 + u / 100), UInt8.ofNat (48 + u / 10 % 10), UInt8.ofNat (48 + u % 10)]) := by
  by_cases h1 : u < 10
  · rw [if_pos h1, Lib.decDigits, dif_pos h1]
  · rw [if_neg h1, Lib.decDigits, dif_neg h1]
    by_cases h2 : u < 100
    · rw [if_pos h2, Lib.decDigits, dif_pos (by omega)]
      rfl
    · rw [if_neg h2, Lib.decDigits, dif_neg (by omega), Lib.decDigits, dif_pos (by omega)]
      rw [show u / 10 / 10 = u / 100 by omega]
      rfl
theorem dig (d : Nat) (h : d < 10) : (UInt8.ofNat (48 + d)).toNat = 48 + d := by
  rw [UInt8.toNat_ofNat']
  omega
/-- The number that digits spell, behind what was read. -/
def valD (acc : Nat) : List UInt8 → Option Nat
  | [] => some acc
  | c :: r => if 48 ≤ c.toNat ∧ c.toNat ≤ 57 then valD (acc * 10 + (c.toNat - 48)) r else none
theorem valD_snoc (c : UInt8) : ∀ (g : List UInt8) (acc : Nat), valD acc (g ++ [c]) = (valD acc g).bind fun n => if 48 ≤ c.toNat ∧ c.toNat ≤ 57 then some (n * 10 + (c.toNat - 48)) else none
  | [], acc => by simp [valD]
  | x :: r, acc => by
    rw [List.cons_append, valD, valD]
    split
    · exact valD_snoc c r _
    · rfl
theorem valD_dec (u : Nat) (h : u ≤ 999) : valD 0 (Lib.decDigits u) = some u := by
  rw [dec3 u h]
  split
  · have h1 := dig u (by omega)
    simp only [valD, h1]
    rw [if_pos (by omega)]
    congr 1; omega
  · split
    · have h1 := dig (u / 10) (by omega)
      have h2 := dig (u % 10) (by omega)
      simp only [valD, h1, h2]
      rw [if_pos (by omega), if_pos (by omega)]
      congr 1; omega
    · have h1 := dig (u / 100) (by omega)
      have h2 := dig (u / 10 % 10) (by omega)
      have h3 := dig (u % 10) (by omega)
      simp only [valD, h1, h2, h3]
      rw [if_pos (by omega), if_pos (by omega), if_pos (by omega)]
      congr 1; omega
theorem ofNat_of (c : UInt8) (d : Nat) (h : c.toNat = 48 + d) : UInt8.ofNat (48 + d) = c := by
  rw [← h]
  exact UInt8.ofNat_toNat
/-- A canonical numeral is the one that is written. -/
theorem dec_of_valD : ∀ (m : Nat) (g : List UInt8) (n : Nat), g.length = m → g ≠ [] → (g.length > 1 → g.head? ≠ some 48) → valD 0 g = some n → g = Lib.decDigits n := by
  intro m
  induction m with
  | zero => intro g n hm hne _ _; exact absurd (List.length_eq_zero_iff.1 hm) hne
  | succ m ih =>
    intro g n hm hne hz hv
    rcases List.eq_nil_or_concat g with rfl | ⟨g', c, rfl⟩
    · exact absurd rfl hne
    · rw [List.concat_eq_append] at *
      rw [valD_snoc] at hv
      cases hg : valD 0 g' with
      | none => rw [hg] at hv; cases hv
      | some n' =>
        rw [hg, Option.bind_some] at hv
        split at hv
        · next hc =>
          have hn := Option.some.inj hv
          by_cases h0 : g' = []
          · subst h0
            have : n' = 0 := by simpa [valD] using hg.symm
            subst this
            rw [Lib.decDigits, dif_pos (by omega), ofNat_of c n (by omega)]
            rfl
          · have hl : 0 < g'.length := List.length_pos_iff.2 h0
            have hh : g'.head? ≠ some 48 := by
              have := hz (by rw [List.length_append]; simp; omega)
              obtain ⟨x, y, rfl⟩ := List.exists_cons_of_ne_nil h0
              simpa using this
            have e := ih g' n' (by rw [List.length_append] at hm; simpa using hm) h0 (fun _ => hh) hg
            have hn1 : 1 ≤ n' := by
              rcases Nat.eq_zero_or_pos n' with h1 | h1
              · subst h1
                rw [Lib.decDigits, dif_pos (by omega)] at e
                subst e
                exact absurd rfl hh
              · exact h1
            rw [Lib.decDigits, dif_neg (by omega), show n / 10 = n' by omega, ← e, ofNat_of c (n % 10) (by omega)]
        · cases hv
theorem dec_head (u : Nat) (h : u ≤ 999) : Lib.decDigits u ≠ [] ∧ ((Lib.decDigits u).length > 1 → (Lib.decDigits u).head? ≠ some 48) ∧ 32 ∉ Lib.decDigits u := by
  rw [dec3 u h]
  have k : ∀ d, d < 10 → (32 : UInt8) ≠ UInt8.ofNat (48 + d) := by
    intro d hd e
    have := congrArg UInt8.toNat e
    rw [dig d hd] at this
    have e2 : (32 : UInt8).toNat = 32 := rfl
    omega
  have z : ∀ d, d < 10 → 1 ≤ d → UInt8.ofNat (48 + d) ≠ (48 : UInt8) := by
    intro d hd h1 e
    have := congrArg UInt8.toNat e
    rw [dig d hd] at this
    have e2 : (48 : UInt8).toNat = 48 := rfl
    omega
  split
  · refine ⟨by simp, fun hl => by simp at hl, ?_⟩
    rw [List.mem_singleton]
    exact k u (by omega)
  · split
    · refine ⟨by simp, fun _ => ?_, ?_⟩
      · simpa using z (u / 10) (by omega) (by omega)
      · simp only [List.mem_cons, List.not_mem_nil, or_false, not_or]
        exact ⟨k _ (by omega), k _ (by omega)⟩
    · refine ⟨by simp, fun _ => ?_, ?_⟩
      · simpa using z (u / 100) (by omega) (by omega)
      · simp only [List.mem_cons, List.not_mem_nil, or_false, not_or]
        exact ⟨k _ (by omega), k _ (by omega), k _ (by omega)⟩
theorem pm (acc : Nat) : ∀ (l : List UInt8) (n : Nat), valD acc l = some n → n ≤ 999 → Lib.parseUintM (2 ^ 64 - 1) acc l = .ok n
  | [], n, h, _ => by
    obtain rfl := Option.some.inj h
    rfl
  | c :: r, n, h, hn => by
    rw [valD] at h
    split at h
    · next hc =>
      have le : ∀ (l : List UInt8) (a b : Nat), valD a l = some b → a ≤ b := by
        intro l
        induction l with
        | nil => intro a b hb; rw [valD] at hb; have := Option.some.inj hb; omega
        | cons x y ihy =>
          intro a b hb
          rw [valD] at hb
          split at hb
          · have := ihy _ _ hb; omega
          · cases hb
      have h1 := le r _ _ h
      rw [Lib.parseUintM, if_pos hc, if_neg (by omega), if_neg (by omega)]
      exact pm _ r n h hn
    · cases h
theorem num_dec (u : Nat) (h : u ≤ 999) : numOf (Lib.decDigits u) = (u : Int) := by
  have hd := dec_head u h
  have hp := pm 0 (Lib.decDigits u) u (valD_dec u h) h
  have first : ∃ c r, Lib.decDigits u = c :: r ∧ 48 ≤ c.toNat := by
    rw [dec3 u h]
    split
    · exact ⟨_, _, rfl, by rw [dig u (by omega)]; omega⟩
    · split
      · exact ⟨_, _, rfl, by rw [dig (u / 10) (by omega)]; omega⟩
      · exact ⟨_, _, rfl, by rw [dig (u / 100) (by omega)]; omega⟩
  obtain ⟨c, r, e, hc⟩ := first
  have hB : Lib.parseIntB 64 (Lib.decDigits u) = .ok (u : Int) := by
    rw [e] at hp ⊢
    unfold Lib.parseIntB
    have n1 : ¬ (c.toNat = 43 ∨ c.toNat = 45) := by omega
    have n2 : ¬ c.toNat = 45 := by omega
    have q1 : (if c.toNat = 43 ∨ c.toNat = 45 then r else c :: r) = c :: r := if_neg n1
    have q2 : Lib.parseUintB 64 (c :: r) = .ok u := by
      unfold Lib.parseUintB
      rw [if_neg (List.cons_ne_nil c r)]
      exact hp
    have g1 : ¬ (9223372036854775808 ≤ u) := by omega
    simp only [q1, q2]
    simp [n2, g1]
  unfold numOf
  rw [hB]
theorem num_nil : numOf [] = 0 := rfl

/-! ### the cut and the split at blanks -/
theorem index_cases : ∀ l : List UInt8, (∃ f g, Lib.index l [32] = (f.length : Int) ∧ l = f ++ 32 :: g ∧ 32 ∉ f) ∨ (Lib.index l [32] = -1 ∧ 32 ∉ l)
  | [] => Or.inr ⟨rfl, by simp⟩
  | c :: r => by
    by_cases hc : c = 32
    · subst hc
      exact Or.inl ⟨[], r, by simp [Lib.index, List.isPrefixOf], rfl, by simp⟩
    · have hp : List.isPrefixOf [32] (c :: r) = false := by
        have : ((32 : UInt8) == c) = false := beq_eq_false_iff_ne.2 (fun e => hc e.symm)
        simp [List.isPrefixOf, this]
      rcases index_cases r with ⟨f, g, h1, h2, h3⟩ | ⟨h1, h2⟩
      · refine Or.inl ⟨c :: f, g, ?_, by rw [h2]; rfl, ?_⟩
        · rw [Lib.index, hp, h1]
          have : ((f.length : Int) == -1) = false := by rw [beq_eq_false_iff_ne]; omega
          simp [this]
        · simp only [List.mem_cons, not_or]
          exact ⟨fun e => hc e.symm, h3⟩
      · refine Or.inr ⟨?_, ?_⟩
        · rw [Lib.index, hp, h1]
          rfl
        · simp only [List.mem_cons, not_or]
          exact ⟨fun e => hc e.symm, h2⟩
theorem cut_cases (l : List UInt8) : (∃ f g, Lib.cut l [32] = (f, g, true) ∧ l = f ++ 32 :: g ∧ 32 ∉ f) ∨ (Lib.cut l [32] = (l, [], false) ∧ 32 ∉ l) := by
  rcases index_cases l with ⟨f, g, h1, h2, h3⟩ | ⟨h1, h2⟩
  · refine Or.inl ⟨f, g, ?_, h2, h3⟩
    unfold Lib.cut
    rw [h1, if_pos (by omega), Int.toNat_natCast]
    subst h2
    simp
  · refine Or.inr ⟨?_, h2⟩
    unfold Lib.cut
    rw [h1, if_neg (by decide)]
theorem same_first {f g f' g' : List UInt8} (h : f ++ 32 :: g = f' ++ 32 :: g') (h1 : 32 ∉ f) (h2 : 32 ∉ f') : f = f' ∧ g = g' := by
  induction f generalizing f' with
  | nil =>
    cases f' with
    | nil => exact ⟨rfl, by simpa using h⟩
    | cons a b =>
      simp only [List.nil_append, List.cons_append, List.cons.injEq] at h
      exact absurd (by rw [← h.1]; simp) h2
  | cons a b ih =>
    cases f' with
    | nil =>
      simp only [List.nil_append, List.cons_append, List.cons.injEq] at h
      exact absurd (by rw [h.1]; simp) h1
    | cons c d =>
      simp only [List.cons_append, List.cons.injEq] at h
      simp only [List.mem_cons, not_or] at h1 h2
      have := ih h.2 h1.2 h2.2
      exact ⟨by rw [h.1, this.1], this.2⟩
/-- The pieces between blanks, behind what was read of the first. -/
def scan : List UInt8 → List UInt8 → List (List UInt8)
  | [], cur => [cur]
  | c :: r, cur => if c = 32 then cur :: scan r [] else scan r (cur ++ [c])
theorem scan_none : ∀ (l cur : List UInt8), 32 ∉ l → scan l cur = [cur ++ l]
  | [], cur, _ => by simp [scan]
  | c :: r, cur, h => by
    simp only [List.mem_cons, not_or] at h
    rw [scan, if_neg (fun e => h.1 e.symm), scan_none r _ h.2]
    simp
theorem scan_some (g : List UInt8) : ∀ (f cur : List UInt8), 32 ∉ f → scan (f ++ 32 :: g) cur = (cur ++ f) :: scan g []
  | [], cur, _ => by simp [scan]
  | c :: r, cur, h => by
    simp only [List.mem_cons, not_or] at h
    rw [List.cons_append, scan, if_neg (fun e => h.1 e.symm), scan_some g r _ h.2]
    simp
theorem scan_pos : ∀ (l cur : List UInt8), 1 ≤ (scan l cur).length
  | [], _ => by simp [scan]
  | c :: r, cur => by
    rw [scan]
    split
    · simp
    · exact scan_pos r _
theorem scan_two (l cur : List UInt8) (h : 32 ∈ l) : 2 ≤ (scan l cur).length := by
  rcases index_cases l with ⟨f, g, _, h2, h3⟩ | ⟨_, h2⟩
  · rw [h2, scan_some g f cur h3]
    have := scan_pos g []
    simp only [List.length_cons]
    omega
  · exact absurd h h2
def mk (l : List UInt8) : ByteArray := ⟨l.toArray⟩
theorem mk_size (l : List UInt8) : (mk l).size = l.length := size_lists l
theorem bt_mk (l : List UInt8) (i : Nat) (h : i < l.length) : bt (mk l) i = ((l[i]).toNat : Int) := by
  unfold bt
  have h2 : (i : Int).toNat < (mk l).size := by rw [mk_size, Int.toNat_natCast]; exact h
  rw [dif_pos h2]
  congr 1
theorem ext_mk (l : List UInt8) (a b : Nat) : (mk l).extract a b = mk ((l.drop a).take (b - a)) := by
  apply ByteArray.ext
  apply Array.ext'
  simp [mk, ByteArray.data_extract, List.extract_eq_take_drop]
theorem split_ev (l : List UInt8) (hl : l.length ≤ 1048576) : Ev (fun k => spec_l01Split.f k (mk l) 32) ((scan l []).map mk) := by
  unfold spec_l01Split.f
  have main : ∀ (d i s : Nat) (out : List ByteArray), i + d = l.length → s ≤ i → out.length ≤ i →
      Ev (fun k => spec_l01Split.l0 k (mk l) 32 out s i) (out ++ (scan (l.drop i) ((l.drop s).take (i - s))).map mk) := by
    intro d
    induction d with
    | zero =>
      intro i s out hi hs ho
      refine Ev.step (f := fun _ => some (out ++ [mk (l.drop s)])) (fun k => ?_) ?_
      · simp only [spec_l01Split.l0, mk_size]
        have a1 : ¬ (i : Int) < (l.length : Int) := by omega
        have a2 : (0 : Int) ≤ (s : Int) := by omega
        have a3 : (s : Int) ≤ (l.length : Int) := by omega
        have a4 : out.length < 8796093022208 := by omega
        rw [if_neg a1, if_pos a2, if_pos a3, if_pos a4, Int.toNat_natCast, ext_mk, List.take_of_length_le (by rw [List.length_drop]; omega)]
      · rw [List.drop_eq_nil_of_le (by omega : l.length ≤ i), List.take_of_length_le (by rw [List.length_drop]; omega)]
        exact Ev.now _
    | succ d ih =>
      intro i s out hi hs ho
      have hlt : i < l.length := by omega
      have e : l.drop i = l[i] :: l.drop (i + 1) := (List.getElem_cons_drop hlt).symm
      have a1 : (i : Int) < (l.length : Int) := by omega
      have a2 : (0 : Int) ≤ (i : Int) := by omega
      by_cases hc : l[i] = 32
      · have h2 := ih (i + 1) (i + 1) (out ++ [mk ((l.drop s).take (i - s))]) (by omega) (Nat.le_refl _) (by simp; omega)
        rw [e, scan, if_pos hc]
        rw [Nat.sub_self, List.take_zero] at h2
        rw [List.map_cons, show out ++ mk ((l.drop s).take (i - s)) :: (scan (l.drop (i + 1)) []).map mk = out ++ [mk ((l.drop s).take (i - s))] ++ (scan (l.drop (i + 1)) []).map mk by simp]
        refine Ev.step (fun k => ?_) h2
        simp only [spec_l01Split.l0, mk_size, bt_mk l i hlt]
        have b1 : ((l[i]).toNat : Int) = 32 := by rw [hc]; rfl
        have b2 : (0 : Int) ≤ (s : Int) := by omega
        have b3 : (s : Int) ≤ (i : Int) := by omega
        have b4 : (i : Int) ≤ (l.length : Int) := by omega
        have b5 : out.length < 8796093022208 := by omega
        rw [if_pos a1, if_pos a2, if_pos b1, if_pos b2, if_pos b3, if_pos b4, if_pos b5, wrap_succ (by omega) (by omega), Int.toNat_natCast, Int.toNat_natCast, ext_mk]
        rfl
      · have h2 := ih (i + 1) s out (by omega) (by omega) (by omega)
        rw [e, scan, if_neg hc]
        have t : (l.drop s).take (i - s) ++ [l[i]] = (l.drop s).take (i + 1 - s) := by
          rw [show i + 1 - s = (i - s) + 1 by omega, List.take_add_one, List.getElem?_drop, show s + (i - s) = i by omega, List.getElem?_eq_getElem hlt]
          rfl
        rw [t]
        refine Ev.step (fun k => ?_) h2
        simp only [spec_l01Split.l0, mk_size, bt_mk l i hlt]
        have b1 : ¬ ((l[i]).toNat : Int) = 32 := by
          intro h
          apply hc
          have h3 : (l[i]).toNat = (32 : UInt8).toNat := by
            have : (32 : UInt8).toNat = 32 := rfl
            omega
          exact UInt8.toNat_inj.1 h3
        rw [if_pos a1, if_pos a2, if_neg b1, wrap_succ (by omega) (by omega)]
        rfl
  have := main l.length 0 0 [] (by omega) (Nat.le_refl _) (Nat.le_refl _)
  simpa using this

/-! ### the number -/
def numR (g : List UInt8) : Int × Bool :=
  if (g.length < 1 ∨ 9 < g.length) ∨ (g.head? = some 48 ∧ 1 < g.length) then (0, false) else match valD 0 g with
    | some v => ((v : Int), true)
    | none => (0, false)
def told (o : Option Nat) : Int × Bool := match o with
  | some v => ((v : Int), true)
  | none => (0, false)
theorem loop_ev (g : List UInt8) (h9 : g.length ≤ 9) : ∀ (d i acc : Nat), i + d = g.length → acc < 10 ^ i → Ev (fun k => spec_l01Number.l0 k (mk g) (acc : Int) (i : Int)) (told (valD acc (g.drop i))) := by
  intro d
  induction d with
  | zero =>
    intro i acc hi ha
    rw [List.drop_eq_nil_of_le (by omega : g.length ≤ i)]
    refine Ev.step (f := fun _ => some ((acc : Int), true)) (fun k => ?_) (Ev.now _)
    simp only [spec_l01Number.l0, mk_size]
    have a1 : ¬ (i : Int) < (g.length : Int) := by omega
    rw [if_neg a1]
  | succ d ih =>
    intro i acc hi ha
    have hlt : i < g.length := by omega
    have e : g.drop i = g[i] :: g.drop (i + 1) := (List.getElem_cons_drop hlt).symm
    have a1 : (i : Int) < (g.length : Int) := by omega
    have a2 : (0 : Int) ≤ (i : Int) := by omega
    rw [e, valD]
    by_cases c1 : 48 ≤ (g[i]).toNat ∧ (g[i]).toNat ≤ 57
    · rw [if_pos c1]
      have p : 10 ^ (i + 1) = 10 ^ i * 10 := Nat.pow_succ 10 i
      have q : (10 : Nat) ^ i ≤ 10 ^ 8 := Nat.pow_le_pow_right (by decide) (by omega)
      have q8 : (10 : Nat) ^ 8 = 100000000 := by decide
      refine Ev.step (fun k => ?_) (ih (i + 1) (acc * 10 + ((g[i]).toNat - 48)) (by omega) (by omega))
      simp only [spec_l01Number.l0, mk_size, bt_mk g i hlt]
      have b1 : ¬ ((g[i]).toNat : Int) < 48 := by omega
      have b2 : ¬ ((g[i]).toNat : Int) > 57 := by omega
      rw [if_pos a1, if_pos a2, if_neg b1, if_neg b2, wrap_succ (by omega) (by omega)]
      congr 1
      unfold wrap64
      omega
    · rw [if_neg c1]
      refine Ev.step (f := fun _ => some ((0 : Int), false)) (fun k => ?_) (Ev.now _)
      simp only [spec_l01Number.l0, mk_size, bt_mk g i hlt]
      rw [if_pos a1, if_pos a2]
      by_cases b1 : ((g[i]).toNat : Int) < 48
      · rw [if_pos b1]
      · have b2 : ((g[i]).toNat : Int) > 57 := by omega
        rw [if_neg b1, if_pos b2]
theorem number_ev (g : List UInt8) : Ev (fun k => spec_l01Number.f k (mk g)) (numR g) := by
  unfold spec_l01Number.f numR
  simp only [mk_size]
  have bad : Ev (fun k => spec_l01Number.j0 k (mk g) true) (0, false) := Ev.step (f := fun _ => some ((0 : Int), false)) (fun k => by simp only [spec_l01Number.j0, if_true]) (Ev.now _)
  by_cases h1 : g.length < 1
  · have a1 : (g.length : Int) < 1 := by omega
    rw [if_pos (Or.inl (Or.inl h1))]
    simp only [if_pos a1]
    exact bad
  · have a1 : ¬ (g.length : Int) < 1 := by omega
    simp only [if_neg a1]
    by_cases h2 : 9 < g.length
    · have a2 : (g.length : Int) > 9 := by omega
      rw [if_pos (Or.inl (Or.inr h2))]
      simp only [if_pos a2]
      exact bad
    · have a2 : ¬ (g.length : Int) > 9 := by omega
      have a3 : 0 < (g.length : Int) := by omega
      simp only [if_neg a2, if_pos a3]
      obtain ⟨x, y, rfl⟩ := List.exists_cons_of_ne_nil (List.ne_nil_of_length_pos (by omega : 0 < g.length))
      have b0 : bt (mk (x :: y)) 0 = ((x).toNat : Int) := bt_mk (x :: y) 0 (by simp)
      have good : Ev (fun k => spec_l01Number.j0 k (mk (x :: y)) false) (told (valD 0 (x :: y))) :=
        Ev.step (fun k => by simp only [spec_l01Number.j0, Bool.false_eq_true, if_false]; rfl) (loop_ev (x :: y) (by omega) (x :: y).length 0 0 (by omega) (by decide))
      rw [b0]
      by_cases h3 : x = 48
      · subst h3
        have c : ((48 : UInt8).toNat : Int) = 48 := rfl
        simp only [if_pos c]
        by_cases h4 : 1 < ((48 : UInt8) :: y).length
        · rw [if_pos (Or.inr ⟨rfl, h4⟩)]
          have d : (((48 : UInt8) :: y).length : Int) > 1 := by omega
          simp only [decide_eq_true d]
          exact bad
        · rw [if_neg (by rintro ((h | h) | h); exact h1 h; exact h2 h; exact h4 h.2)]
          have d : ¬ (((48 : UInt8) :: y).length : Int) > 1 := by omega
          simp only [decide_eq_false d]
          exact good
      · have c : ¬ (x.toNat : Int) = 48 := by
          intro h
          apply h3
          have h5 : x.toNat = (48 : UInt8).toNat := by
            have : (48 : UInt8).toNat = 48 := rfl
            omega
          exact UInt8.toNat_inj.1 h5
        simp only [if_neg c]
        rw [if_neg (by rintro ((h | h) | h); exact h1 h; exact h2 h; exact h3 (by simpa using h.1))]
        exact good
theorem numR_dec (u : Nat) (h : u ≤ 999) : numR (Lib.decDigits u) = ((u : Int), true) := by
  have hd := dec_head u h
  have hl := dec_len u h
  have hp := List.length_pos_iff.2 hd.1
  unfold numR
  rw [if_neg (by rintro ((h | h) | h); omega; omega; exact hd.2.1 h.2 h.1), valD_dec u h]
theorem numR_ok (g : List UInt8) (n : Int) (h : numR g = (n, true)) : ∃ u : Nat, n = (u : Int) ∧ g = Lib.decDigits u := by
  unfold numR at h
  split at h
  · cases h
  · next c =>
    have c1 : ¬ g.length < 1 := fun e => c (Or.inl (Or.inl e))
    have c2 : 1 < g.length → g.head? ≠ some 48 := fun e1 e2 => c (Or.inr ⟨e2, e1⟩)
    cases hv : valD 0 g with
    | none => rw [hv] at h; cases h
    | some v =>
      rw [hv] at h
      simp only [Prod.mk.injEq, and_true] at h
      exact ⟨v, h.symm, dec_of_valD g.length g v rfl (fun e => by subst e; simp at c1) c2 hv⟩

/-! ### the words -/
theorem word_blank (a : Int) : 32 ∉ (word a).1 := by
  unfold word
  repeat' split
  all_goals decide
theorem word_inj (a b : Int) (ha : 1 ≤ a ∧ a ≤ 8) (hb : 1 ≤ b ∧ b ≤ 8) (h : (word a).1 = (word b).1) : a = b := by
  rcases kinds a ha with rfl | rfl | rfl | rfl | rfl | rfl | rfl | rfl <;> rcases kinds b hb with rfl | rfl | rfl | rfl | rfl | rfl | rfl | rfl <;> first | rfl | exact absurd h (by decide)
def st (x : List UInt8) : Nat → Int
  | 0 => 0
  | j + 1 => if (word ((j : Int) + 1)).1 = x then (j : Int) + 1 else st x j
theorem st_cases (x : List UInt8) : ∀ j, st x j = 0 ∨ (1 ≤ st x j ∧ st x j ≤ (j : Int) ∧ (word (st x j)).1 = x)
  | 0 => Or.inl rfl
  | j + 1 => by
    rw [st]
    split
    · next h => exact Or.inr ⟨by omega, by omega, h⟩
    · rcases st_cases x j with h | ⟨h1, h2, h3⟩
      · exact Or.inl h
      · exact Or.inr ⟨h1, by omega, h3⟩
theorem st_word (a : Int) (ha : 1 ≤ a ∧ a ≤ 8) : ∀ j : Nat, j ≤ 8 → a ≤ (j : Int) → st (word a).1 j = a
  | 0, _, h => by omega
  | j + 1, hj, h => by
    rw [st]
    by_cases e : a = (j : Int) + 1
    · subst e
      rw [if_pos rfl]
    · rw [if_neg (fun e2 => e (word_inj _ _ (by omega) ha e2).symm)]
      exact st_word a ha j (by omega) (by omega)
theorem words_len (l1 : List ByteArray) (l2 : List Bool) (h : spec_l08Words.f = some (l1, l2)) : l1.length = 9 ∧ l2.length = 9 := by
  unfold spec_l08Words.f at h
  obtain ⟨rfl, rfl⟩ := Prod.mk.inj (Option.some.inj h)
  exact ⟨rfl, rfl⟩
theorem mk_list (l : List UInt8) : (mk l).toList = l := by
  rw [ByteArray.toList_eq]
  rfl

/-! ### the reference's reading -/
def out (x : List UInt8) (rest : List (List UInt8)) : Int × Int × Int :=
  if st x 8 = 0 then (0, 0, 5) else if ((word (st x 8)).2 != ((rest.length : Int) + 1 == 2)) = true then (0, 0, 5) else if (rest.length : Int) + 1 > 2 then (0, 0, 5) else match rest with
    | [g] => if (numR g).2 = true then (if okDeed (st x 8) (numR g).1 = true then (st x 8, (numR g).1, 0) else (0, 0, 5)) else (0, 0, 5)
    | _ => if okDeed (st x 8) 0 = true then (st x 8, 0, 0) else (0, 0, 5)
theorem spec_ev (l : List UInt8) (hl : l.length ≤ 1048576) (x : List UInt8) (rest : List (List UInt8)) (hx : scan l [] = x :: rest) : Ev (fun k => spec_ReadDeed.f k (mk l)) (out x rest) := by
  unfold spec_ReadDeed.f
  obtain ⟨⟨l1, l2⟩, hw⟩ : ∃ y, spec_l08Words.f = some y := ⟨_, rfl⟩
  have S := split_ev l hl
  rw [hx, List.map_cons] at S
  refine Ev.bind S ?_
  simp only [hw, Option.bind_some]
  have W := words_len l1 l2 hw
  have L1 : ((mk x :: rest.map mk).length : Int) = (rest.length : Int) + 1 := by simp
  have L0 : (0 : Int) < ((mk x :: rest.map mk).length : Int) := by rw [L1]; omega
  have r0 : rdOf ByteArray.empty (mk x :: rest.map mk) 0 = mk x := rfl
  have bad : ∀ (s a : Int), Ev (fun k => spec_ReadDeed.j1 k (mk x :: rest.map mk) true s a) (0, 0, 5) := fun s a => Ev.step (f := fun _ => some (0, 0, 5)) (fun k => by simp only [spec_ReadDeed.j1, if_true]) (Ev.now _)
  refine up_loop (fun k s i => spec_ReadDeed.l0 k (mk x :: rest.map mk) l1 l2 (i + 1) s 0) (st x) 8 _ (fun j hj h => ?_) ?_
  · refine Ev.step (fun k => ?_) h
    have R := rd_word ((j : Int) + 1) (by omega) l1 l2 hw
    have c1 : (j : Int) + 1 < (l1.length : Int) := R.1.1
    have c2 : (0 : Int) ≤ (j : Int) + 1 := by omega
    simp only [spec_ReadDeed.l0]
    rw [if_pos c1, if_pos c2, if_pos L0, R.2.1, r0, show (⟨(word ((j : Int) + 1)).1.toArray⟩ : ByteArray) = mk (word ((j : Int) + 1)).1 from rfl, mk_list, mk_list, wrap_succ (by omega) (by omega), st]
    split <;> rfl
  · have c1 : ¬ ((8 : Nat) : Int) + 1 < (l1.length : Int) := by rw [W.1]; decide
    unfold out
    generalize hk : st x 8 = κ
    have K := st_cases x 8
    rw [hk] at K
    by_cases h0 : κ = 0
    · rw [if_pos h0]
      refine Ev.step (fun k => ?_) (bad κ 0)
      simp only [spec_ReadDeed.l0]
      rw [if_neg c1, if_pos h0]
    · have K2 : 1 ≤ κ ∧ κ ≤ 8 := by rcases K with h | h <;> omega
      rw [if_neg h0]
      have R := rd_word κ K2 l1 l2 hw
      have d1 : 0 ≤ κ := by omega
      by_cases h1 : ((word κ).2 != ((rest.length : Int) + 1 == 2)) = true
      · rw [if_pos h1]
        refine Ev.step (fun k => ?_) (bad κ 0)
        simp only [spec_ReadDeed.l0]
        rw [if_neg c1, if_neg h0, if_pos d1, if_pos R.1.2, R.2.2, L1, if_pos h1]
      · rw [if_neg h1]
        refine Ev.step (f := fun k => spec_ReadDeed.j1 k (mk x :: rest.map mk) (decide ((rest.length : Int) + 1 > 2)) κ 0) (fun k => ?_) ?_
        · simp only [spec_ReadDeed.l0]
          rw [if_neg c1, if_neg h0, if_pos d1, if_pos R.1.2, R.2.2, L1, if_neg h1]
        · by_cases h2 : (rest.length : Int) + 1 > 2
          · rw [if_pos h2, decide_eq_true h2]
            exact bad κ 0
          · rw [if_neg h2, decide_eq_false h2]
            match rest, h2 with
            | [], _ =>
              refine Ev.step (f := fun _ => some (if okDeed κ 0 = true then (κ, 0, 0) else (0, 0, 5))) (fun k => ?_) (Ev.now _)
              simp only [spec_ReadDeed.j1, Bool.false_eq_true, if_false, List.map_nil]
              have e2 : ¬ (([mk x] : List ByteArray).length : Int) = 2 := by simp
              rw [if_neg e2, spec_ok, Option.bind_some]
              split <;> rfl
            | [g], _ =>
              refine Ev.step (f := fun k => (spec_l01Number.f k (mk g)).bind fun b => if b.2 = true then (if okDeed κ b.1 = true then some (κ, b.1, 0) else some (0, 0, 5)) else some (0, 0, 5)) (fun k => ?_) ?_
              · simp only [spec_ReadDeed.j1, Bool.false_eq_true, if_false, List.map_cons, List.map_nil]
                have e2 : (([mk x, mk g] : List ByteArray).length : Int) = 2 := rfl
                have e1 : (1 : Int) < (([mk x, mk g] : List ByteArray).length : Int) := by rw [e2]; decide
                rw [if_pos e2, if_pos e1, show rdOf ByteArray.empty [mk x, mk g] 1 = mk g from rfl]
                simp only [spec_ok, Option.bind_some]
              · refine Ev.bind (number_ev g) ?_
                by_cases h3 : (numR g).2 = true
                · simp only [if_pos h3]
                  by_cases h4 : okDeed κ (numR g).1 = true
                  · simp only [if_pos h4]; exact Ev.now _
                  · simp only [if_neg h4]; exact Ev.now _
                · simp only [if_neg h3]; exact Ev.now _
            | _ :: _ :: _, h2 => exact absurd h2 (by simp only [List.length_cons]; omega)
theorem out_some (a b : Int) (h : okDeed a b = true) : ∃ x rest, scan (text a b) [] = x :: rest ∧ out x rest = (a, b, 0) := by
  have o := ok_of h
  unfold text
  rw [if_pos h]
  cases hw : (word a).2 with
  | false =>
    rw [if_neg (by decide), scan_none _ _ (word_blank a)]
    refine ⟨_, _, rfl, ?_⟩
    have b0 : b = 0 := by
      unfold okDeed at h
      rw [Bool.and_eq_true, hw, Bool.false_or] at h
      exact eq_of_beq h.2
    subst b0
    unfold out
    rw [List.nil_append, st_word a o.1 8 (by omega) (by omega), if_neg (by omega), hw]
    simp [h]
  | true =>
    have hd := dec_head b.toNat (by omega)
    rw [if_pos rfl, show (word a).1 ++ [32] ++ Lib.decDigits b.toNat = (word a).1 ++ 32 :: Lib.decDigits b.toNat by simp, scan_some _ _ _ (word_blank a), scan_none _ _ hd.2.2]
    refine ⟨_, _, rfl, ?_⟩
    have n := numR_dec b.toNat (by omega)
    rw [Int.toNat_of_nonneg o.2.1] at n
    unfold out
    rw [List.nil_append, List.nil_append, st_word a o.1 8 (by omega) (by omega), if_neg (by omega), hw]
    simp [n, h]
theorem out_none (l : List UInt8) (h : ∀ a b, okDeed a b = true → text a b ≠ l) : ∃ x rest, scan l [] = x :: rest ∧ out x rest = (0, 0, 5) := by
  rcases index_cases l with ⟨f, g, _, e, hf⟩ | ⟨_, hn⟩
  · rw [e, scan_some g f [] hf]
    refine ⟨_, _, rfl, ?_⟩
    rw [List.nil_append]
    unfold out
    have K := st_cases f 8
    generalize hk : st f 8 = κ
    rw [hk] at K
    by_cases h0 : κ = 0
    · rw [if_pos h0]
    · rw [if_neg h0]
      have K2 : (1 ≤ κ ∧ κ ≤ 8) ∧ (word κ).1 = f := by
        rcases K with h | h
        · exact absurd h h0
        · exact ⟨⟨h.1, by have := h.2.1; omega⟩, h.2.2⟩
      by_cases h1 : ((word κ).2 != (((scan g []).length : Int) + 1 == 2)) = true
      · rw [if_pos h1]
      · rw [if_neg h1]
        by_cases h2 : ((scan g []).length : Int) + 1 > 2
        · rw [if_pos h2]
        · rw [if_neg h2]
          have hg : 32 ∉ g := fun hm => by have := scan_two g [] hm; omega
          rw [scan_none g [] hg, List.nil_append] at h1 ⊢
          have w2 : (word κ).2 = true := by
            cases hw : (word κ).2 with
            | true => rfl
            | false => rw [hw] at h1; exact absurd rfl h1
          simp only
          by_cases h3 : (numR g).2 = true
          · rw [if_pos h3]
            by_cases h4 : okDeed κ (numR g).1 = true
            · exfalso
              obtain ⟨u, hu, hg2⟩ := numR_ok g (numR g).1 (Prod.ext rfl h3)
              apply h κ (numR g).1 h4
              unfold text
              rw [if_pos h4, if_pos w2, K2.2, hu, Int.toNat_natCast, e, ← hg2]
              simp
            · rw [if_neg h4]
          · rw [if_neg h3]
  · rw [scan_none l [] hn]
    refine ⟨_, _, rfl, ?_⟩
    rw [List.nil_append]
    unfold out
    have K := st_cases l 8
    generalize hk : st l 8 = κ
    rw [hk] at K
    by_cases h0 : κ = 0
    · rw [if_pos h0]
    · rw [if_neg h0]
      have K2 : (word κ).1 = l := by
        rcases K with h | h
        · exact absurd h h0
        · exact h.2.2
      by_cases h1 : ((word κ).2 != ((([] : List (List UInt8)).length : Int) + 1 == 2)) = true
      · rw [if_pos h1]
      · rw [if_neg h1, if_neg (by decide)]
        have w2 : (word κ).2 = false := by
          cases hw : (word κ).2 with
          | false => rfl
          | true => rw [hw] at h1; exact absurd rfl h1
        by_cases h4 : okDeed κ 0 = true
        · exfalso
          apply h κ 0 h4
          unfold text
          rw [if_pos h4, w2, if_neg (by decide), K2]
        · rw [if_neg h4]

/-! ### the program's reading -/
theorem impl_f (l : List UInt8) (hl : l.length ≤ 1048576) (r : Int × Int × Int) (h : Ev (fun k => impl_ReadDeed.l0 k (mk l) (mk (Lib.cut l [32]).1) (numOf (Lib.cut l [32]).2.1) 1) r) : Ev (fun k => impl_ReadDeed.f k (mk l)) r := by
  unfold impl_ReadDeed.f strings_Cut.f strconv_ParseInt_20.f
  have c1 : (mk l).size < 4294967281 := by rw [mk_size]; omega
  have hb : (Lib.cut l [32]).2.1.length ≤ l.length := by
    rcases cut_cases l with ⟨f, g, e, e2, _⟩ | ⟨e, _⟩
    · rw [e, e2]; simp only [List.length_append, List.length_cons]; omega
    · rw [e]; simp
  have c2 : (mk (Lib.cut l [32]).2.1).size ≤ 281474976710656 := by rw [mk_size]; omega
  rw [if_pos c1]
  simp only [Option.bind_some]
  have e : ∀ x : List UInt8, (⟨x.toArray⟩ : ByteArray) = mk x := fun _ => rfl
  have e1 : (mk l).data.toList = l := rfl
  simp only [e1, e, and_true, if_pos c2, Option.bind_some]
  exact h
theorem impl_step (l f : List UInt8) (n : Int) (j : Nat) (hj : j < 8) (r : Int × Int × Int) (hn : ¬ (((word ((j : Int) + 1)).1 = f ∧ okDeed ((j : Int) + 1) n = true) ∧ text ((j : Int) + 1) n = l)) (h : Ev (fun k => impl_ReadDeed.l0 k (mk l) (mk f) n ((j : Int) + 1 + 1)) r) : Ev (fun k => impl_ReadDeed.l0 k (mk l) (mk f) n ((j : Int) + 1)) r := by
  refine Ev.step (fun k => ?_) h
  have e : ∀ x : List UInt8, (⟨x.toArray⟩ : ByteArray) = mk x := fun _ => rfl
  have c : (j : Int) + 1 ≤ 8 := by omega
  simp only [impl_ReadDeed.l0]
  rw [if_pos c, impl_word, Option.bind_some, wrap_succ (by omega) (by omega)]
  simp only [e, mk_list]
  by_cases h1 : (word ((j : Int) + 1)).1 = f
  · rw [if_pos h1, impl_ok, Option.bind_some]
    by_cases h2 : okDeed ((j : Int) + 1) n = true
    · rw [if_pos h2, impl_text, Option.bind_some, e, mk_list, if_neg (fun h3 => hn ⟨⟨h1, h2⟩, h3⟩)]
    · rw [if_neg h2]
  · rw [if_neg h1]
theorem impl_none (l : List UInt8) (hl : l.length ≤ 1048576) (h : ∀ a b, okDeed a b = true → text a b ≠ l) : Ev (fun k => impl_ReadDeed.f k (mk l)) (0, 0, 5) := by
  refine impl_f l hl _ ?_
  generalize (Lib.cut l [32]).1 = f
  generalize numOf (Lib.cut l [32]).2.1 = n
  refine up_loop (fun k (_ : Unit) i => impl_ReadDeed.l0 k (mk l) (mk f) n (i + 1)) (fun _ => ()) 8 _ (fun j hj h2 => impl_step l f n j hj _ (fun h3 => h _ _ h3.1.2 h3.2) h2) ?_
  refine Ev.step (f := fun _ => some (0, 0, 5)) (fun k => ?_) (Ev.now _)
  simp only [impl_ReadDeed.l0]
  rw [if_neg (by decide)]
theorem impl_some (a b : Int) (ho : okDeed a b = true) (hl : (text a b).length ≤ 1048576) : Ev (fun k => impl_ReadDeed.f k (mk (text a b))) (a, b, 0) := by
  have o := ok_of ho
  have C : (Lib.cut (text a b) [32]).1 = (word a).1 ∧ numOf (Lib.cut (text a b) [32]).2.1 = b := by
    unfold text
    rw [if_pos ho]
    cases hw : (word a).2 with
    | false =>
      have b0 : b = 0 := by
        unfold okDeed at ho
        rw [Bool.and_eq_true, hw, Bool.false_or] at ho
        exact eq_of_beq ho.2
      subst b0
      rw [if_neg (by decide)]
      rcases cut_cases (word a).1 with ⟨f, g, _, e2, _⟩ | ⟨e, _⟩
      · exact absurd (by rw [e2]; simp) (word_blank a)
      · rw [e]; exact ⟨rfl, rfl⟩
    | true =>
      rw [if_pos rfl, show (word a).1 ++ [32] ++ Lib.decDigits b.toNat = (word a).1 ++ 32 :: Lib.decDigits b.toNat by simp]
      rcases cut_cases ((word a).1 ++ 32 :: Lib.decDigits b.toNat) with ⟨f, g, e, e2, e3⟩ | ⟨_, hn⟩
      · have := same_first e2 (word_blank a) e3
        rw [e, ← this.1, ← this.2]
        refine ⟨rfl, ?_⟩
        have n := num_dec b.toNat (by omega)
        rw [Int.toNat_of_nonneg o.2.1] at n
        exact n
      · exact absurd (by simp) hn
  refine impl_f _ hl _ ?_
  rw [C.1, C.2]
  obtain ⟨m, hm⟩ : ∃ m : Nat, a = (m : Int) + 1 := ⟨(a - 1).toNat, by omega⟩
  refine up_loop (fun k (_ : Unit) i => impl_ReadDeed.l0 k (mk (text a b)) (mk (word a).1) b (i + 1)) (fun _ => ()) m _ (fun j hj h2 => impl_step _ _ b j (by omega) _ (fun h3 => by have := word_inj _ _ (by omega) o.1 h3.1.1; omega) h2) ?_
  rw [← hm]
  refine Ev.step (f := fun _ => some (a, b, 0)) (fun k => ?_) (Ev.now _)
  have e : ∀ x : List UInt8, (⟨x.toArray⟩ : ByteArray) = mk x := fun _ => rfl
  simp only [impl_ReadDeed.l0]
  rw [if_pos o.1.2, impl_word, Option.bind_some]
  simp only [e, mk_list, if_true]
  rw [impl_ok, Option.bind_some, if_pos ho, impl_text, Option.bind_some, e, mk_list, if_pos rfl]

theorem law_ev (s : ByteArray) : ∃ k, laws_FnExactReadDeed.f k s = some true := by
  obtain ⟨l, rfl⟩ : ∃ l, s = mk l := ⟨s.data.toList, rfl⟩
  apply Ev.rounds
  unfold laws_FnExactReadDeed.f
  rw [mk_size]
  by_cases hl : (l.length : Int) > 1048576
  · simp only [if_pos hl]
    exact Ev.now _
  · simp only [if_neg hl]
    have hl2 : l.length ≤ 1048576 := by omega
    have both : ∃ r, Ev (fun k => spec_ReadDeed.f k (mk l)) r ∧ Ev (fun k => impl_ReadDeed.f k (mk l)) r := by
      by_cases h : ∃ a b, okDeed a b = true ∧ text a b = l
      · obtain ⟨a, b, h1, rfl⟩ := h
        obtain ⟨x, rest, e1, e2⟩ := out_some a b h1
        exact ⟨_, e2 ▸ spec_ev _ hl2 x rest e1, impl_some a b h1 hl2⟩
      · have h2 : ∀ a b, okDeed a b = true → text a b ≠ l := fun a b h1 h3 => h ⟨a, b, h1, h3⟩
        obtain ⟨x, rest, e1, e2⟩ := out_none l h2
        exact ⟨_, e2 ▸ spec_ev _ hl2 x rest e1, impl_none l hl2 h2⟩
    obtain ⟨r, h1, h2⟩ := both
    refine Ev.bind h1 (Ev.bind h2 ?_)
    simp only [laws_eqDeed.f, if_true, Option.bind_some]
    exact Ev.now _
end Go.Proofs.YteacmboidfdpmaaDoor.PureFnExactReadDeed
