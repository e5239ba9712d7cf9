/- Plain laws: a word in a list of words. -/
import Derived.Lib.IndexMore
set_option linter.unusedSimpArgs false
set_option linter.unusedVariables false
namespace Go.Proofs.YtnhblghplohonaaGreatDoor.Ab
open Go
/-- A word stands at a place of a list, with a blank about it. -/
def occ (w s : List UInt8) (i : Nat) : Bool := w[i]? == some 32 && ((w.drop (i + 1)).take s.length == s) && w[i + 1 + s.length]? == some 32
theorem occ_iff (w s : List UInt8) (i : Nat) : occ w s i = Lib.occAt w (32 :: s ++ [32]) i := by
  rw [Bool.eq_iff_iff]
  unfold occ Lib.occAt
  simp only [Bool.and_eq_true, beq_iff_eq, List.isPrefixOf_iff_prefix]
  constructor
  · rintro ⟨⟨h1, h2⟩, h3⟩
    have hi : i < w.length := by
      rcases Nat.lt_or_ge i w.length with h | h
      · exact h
      · rw [List.getElem?_eq_none h] at h1; cases h1
    have hj : i + 1 + s.length < w.length := by
      rcases Nat.lt_or_ge (i + 1 + s.length) w.length with h | h
      · exact h
      · rw [List.getElem?_eq_none h] at h3; cases h3
    rw [List.getElem?_eq_getElem hi] at h1
    rw [List.getElem?_eq_getElem hj] at h3
    injection h1 with h1
    injection h3 with h3
    refine ⟨(w.drop (i + 1 + s.length + 1)), ?_⟩
    rw [List.drop_eq_getElem_cons hi, h1]
    have h4 : w.drop (i + 1) = s ++ w.drop (i + 1 + s.length) := by
      conv => lhs; rw [← List.take_append_drop s.length (w.drop (i + 1))]
      rw [h2, List.drop_drop]
    rw [h4, List.drop_eq_getElem_cons hj, h3]
    simp
  · rintro ⟨r, h⟩
    have hi : i < w.length := by
      rcases Nat.lt_or_ge i w.length with h' | h'
      · exact h'
      · rw [List.drop_eq_nil_of_le h'] at h; simp at h
    rw [List.drop_eq_getElem_cons hi] at h
    simp only [List.cons_append, List.append_assoc, List.nil_append, List.cons.injEq] at h
    obtain ⟨h1, h2⟩ := h
    refine ⟨⟨by rw [List.getElem?_eq_getElem hi, h1], by rw [← h2]; simp⟩, ?_⟩
    have : (w.drop (i + 1))[s.length]? = some 32 := by rw [← h2]; simp
    rw [List.getElem?_drop] at this
    exact this
theorem occ_lt {w s : List UInt8} {i : Nat} (h : occ w s i = true) : i + s.length + 2 ≤ w.length := by
  unfold occ at h
  simp only [Bool.and_eq_true, beq_iff_eq] at h
  rcases Nat.lt_or_ge (i + 1 + s.length) w.length with h' | h'
  · omega
  · rw [List.getElem?_eq_none h'] at h; cases h.2
theorem contains_iff (w t : List UInt8) : Lib.contains w t = true ↔ ∃ i, i ≤ w.length ∧ Lib.occAt w t i = true := by
  unfold Lib.contains
  rw [decide_eq_true_eq]
  constructor
  · intro h
    refine Classical.byContradiction fun hn => ?_
    have := Lib.index_none (s := w) (sub := t) fun j hj => by
      cases hx : Lib.occAt w t j with
      | false => rfl
      | true => exact absurd ⟨j, hj, hx⟩ hn
    omega
  · rintro ⟨i, hi, ho⟩
    have key : ∀ n, (∃ i, i ≤ n ∧ i ≤ w.length ∧ Lib.occAt w t i = true) → 0 ≤ Lib.index w t := by
      intro n
      induction n with
      | zero =>
        rintro ⟨i, h0, h1, h2⟩
        obtain rfl : i = 0 := by omega
        rw [Lib.index_first h1 h2 (fun j hj => by omega)]
        omega
      | succ n ih =>
        rintro ⟨i, h0, h1, h2⟩
        by_cases hex : ∃ i, i ≤ n ∧ i ≤ w.length ∧ Lib.occAt w t i = true
        · exact ih hex
        · rw [Lib.index_first h1 h2 (fun j hj => by
            cases hx : Lib.occAt w t j with
            | false => rfl
            | true => exact absurd ⟨j, by omega, by omega, hx⟩ hex)]
          omega
    exact key i ⟨i, Nat.le_refl _, hi, ho⟩
theorem contains_occ (w s : List UInt8) : Lib.contains w (32 :: s ++ [32]) = true ↔ ∃ i, occ w s i = true := by
  rw [contains_iff]
  constructor
  · rintro ⟨i, _, h⟩; exact ⟨i, by rw [occ_iff]; exact h⟩
  · rintro ⟨i, h⟩
    have := occ_lt h
    exact ⟨i, by omega, by rw [← occ_iff]; exact h⟩
theorem contains_byte (s : List UInt8) (b : UInt8) : Lib.contains s [b] = s.contains b := by
  rw [Bool.eq_iff_iff, contains_iff]
  unfold Lib.occAt
  constructor
  · rintro ⟨i, hi, h⟩
    simp only [List.isPrefixOf_iff_prefix] at h
    obtain ⟨r, h⟩ := h
    have : b ∈ s.drop i := by rw [← h]; simp
    simpa using List.mem_of_mem_drop this
  · intro h
    have h : b ∈ s := by simpa using h
    obtain ⟨i, hi, rfl⟩ := List.getElem_of_mem h
    refine ⟨i, by omega, ?_⟩
    simp only [List.isPrefixOf_iff_prefix]
    exact ⟨s.drop (i + 1), by rw [List.drop_eq_getElem_cons hi]; rfl⟩

/-- Is a word one of a list of words? -/
def one (l w : List UInt8) : Bool := !(w == []) && !(w.contains 32) && Lib.contains (32 :: l ++ [32]) (32 :: w ++ [32])
/-- For a list that is given: which words are in it. -/
def oneOk (L : List UInt8) (ts : List (List UInt8)) : Bool :=
  (List.range L.length).all fun i => (List.range L.length).all fun k => let w := (L.drop (i + 1)).take k; !(occ L w i) || w.contains 32 || w.isEmpty || ts.contains w
theorem sign_cases {L w : List UInt8} {ts : List (List UInt8)} (h1 : w ≠ []) (h2 : w.contains 32 = false) (h : Lib.contains L (32 :: w ++ [32]) = true) (ht : oneOk L ts = true) : w ∈ ts := by
  rw [contains_occ] at h
  obtain ⟨i, h3⟩ := h
  have hlt := occ_lt h3
  have hw : (L.drop (i + 1)).take w.length = w := by
    unfold occ at h3
    simp only [Bool.and_eq_true, beq_iff_eq] at h3
    exact h3.1.2
  unfold oneOk at ht
  simp only [List.all_eq_true, List.mem_range] at ht
  have := ht i (by omega) w.length (by omega)
  rw [hw] at this
  simp only [h3, h2, Bool.not_true, Bool.false_or, Bool.or_eq_true, List.isEmpty_iff, h1, false_or] at this
  simpa using this
theorem one_cases {l w : List UInt8} {ts : List (List UInt8)} (h : one l w = true) (ht : oneOk (32 :: l ++ [32]) ts = true) : w ∈ ts := by
  unfold one at h
  simp only [Bool.and_eq_true] at h
  exact sign_cases (by simpa using h.1.1) (by simpa using h.1.2) h.2 ht
end Go.Proofs.YtnhblghplohonaaGreatDoor.Ab
