/- Walks: names, words, lists of words. -/
import Derived.Test.YtnhblghplohonaaGreatDoorAbP
import Derived.Test.YtnhblghplohonaaGreatDoorAbO
set_option linter.unusedSimpArgs false
set_option linter.unusedVariables false
namespace Go.Proofs.YtnhblghplohonaaGreatDoor.Ab
open Go
variable {m : Int}

/-- 'within': a byte of a name. -/
def within (b : UInt8) : Bool := decide (48 ≤ (b.toNat : Int)) && decide ((b.toNat : Int) ≤ 57) || decide (97 ≤ (b.toNat : Int)) && decide ((b.toNat : Int) ≤ 122) || decide (65 ≤ (b.toNat : Int)) && decide ((b.toNat : Int) ≤ 90) || (b.toNat : Int) == 95
def digit (b : UInt8) : Bool := decide (48 ≤ (b.toNat : Int)) && decide ((b.toNat : Int) ≤ 57)
def letter (b : UInt8) : Bool := decide (97 ≤ (b.toNat : Int)) && decide ((b.toNat : Int) ≤ 122) || decide (65 ≤ (b.toNat : Int)) && decide ((b.toNat : Int) ≤ 90) || (b.toNat : Int) == 95
def named (s : List UInt8) : Bool := match s with
  | [] => false
  | c :: _ => !(digit c) && s.all within
theorem within_eq (b : UInt8) : within b = (letter b || digit b) := by
  unfold within letter digit
  cases decide (48 ≤ (b.toNat : Int)) <;> cases decide ((b.toNat : Int) ≤ 57) <;> simp
theorem u8_lt (b : UInt8) : (b.toNat : Int) < 256 := by have := b.toNat_lt; omega

theorem s_within (b : UInt8) (H : Heap) : W m 115 [.int .u8 b.toNat] H = .ok (.bool (within b), H) := by
  refine c115 rfl _ H ?_
  unfold g115 within
  simp +contextual -implicitDefEqProofs [guard_t', guard_f', cond_b', ite_ok, ite_pair, pick_and, pick_or, guard_it, guard_if, guard_et, guard_ef]
theorem s_letter (b : UInt8) (H : Heap) : W m 89 [.int .u8 b.toNat] H = .ok (.bool (letter b), H) := by
  refine c89 rfl _ H ?_
  unfold g89 letter
  simp +contextual -implicitDefEqProofs [guard_t', guard_f', cond_b', ite_ok, ite_pair, pick_and, pick_or, guard_it, guard_if, guard_et, guard_ef]
theorem s_digit7 (b : UInt8) (H : Heap) : W m 90 [.int .u8 b.toNat] H = .ok (.bool (digit b), H) := by
  refine c90 rfl _ H ?_
  unfold g90 digit
  simp +contextual -implicitDefEqProofs [guard_t', guard_f', cond_b', ite_ok, ite_pair, pick_and, pick_or, guard_it, guard_if, guard_et, guard_ef]
theorem s_digit (b : UInt8) (H : Heap) : ∃ n : Int, W m 114 [.int .u8 b.toNat] H = .ok (.int .i64 n, H) ∧ decide (n < 10) = digit b := by
  have h := u8_lt b
  have h0 : (0 : Int) ≤ b.toNat := by omega
  by_cases h1 : (48 : Int) ≤ b.toNat ∧ (b.toNat : Int) ≤ 57
  · refine ⟨b.toNat - 48, c114 rfl _ H ?_, by simp [digit, h1]; omega⟩
    unfold g114
    simp +contextual -implicitDefEqProofs [guard_t', guard_f', cond_b', ite_ok, ite_pair, pick_and, pick_or, guard_it, guard_if, guard_et, guard_ef, h1, wrap_u8 (x := (b.toNat : Int) - 48) (by omega) (by omega), wrap_i64 (x := (b.toNat : Int) - 48) (by omega) (by omega)]
  · have h1' : (decide ((48 : Int) ≤ b.toNat) && decide ((b.toNat : Int) ≤ 57)) = false := by
      simp only [Bool.and_eq_false_iff, decide_eq_false_iff_not]; omega
    by_cases h2 : (97 : Int) ≤ b.toNat ∧ (b.toNat : Int) ≤ 102
    · refine ⟨b.toNat - 97 + 10, c114 rfl _ H ?_, by simp [digit, h1'] <;> omega⟩
      unfold g114
      simp +contextual -implicitDefEqProofs [guard_t', guard_f', cond_b', ite_ok, ite_pair, pick_and, pick_or, guard_it, guard_if, guard_et, guard_ef, h1', h2, wrap_u8 (x := (b.toNat : Int) - 97) (by omega) (by omega), wrap_i64 (x := (b.toNat : Int) - 97) (by omega) (by omega), wrap_i64 (x := (b.toNat : Int) - 97 + 10) (by omega) (by omega)]
    · have h2' : (decide ((97 : Int) ≤ b.toNat) && decide ((b.toNat : Int) ≤ 102)) = false := by
        simp only [Bool.and_eq_false_iff, decide_eq_false_iff_not]; omega
      by_cases h3 : (65 : Int) ≤ b.toNat ∧ (b.toNat : Int) ≤ 70
      · refine ⟨b.toNat - 65 + 10, c114 rfl _ H ?_, by simp [digit, h1'] <;> omega⟩
        unfold g114
        simp +contextual -implicitDefEqProofs [guard_t', guard_f', cond_b', ite_ok, ite_pair, pick_and, pick_or, guard_it, guard_if, guard_et, guard_ef, h1', h2', h3, wrap_u8 (x := (b.toNat : Int) - 65) (by omega) (by omega), wrap_i64 (x := (b.toNat : Int) - 65) (by omega) (by omega), wrap_i64 (x := (b.toNat : Int) - 65 + 10) (by omega) (by omega)]
      · have h3' : (decide ((65 : Int) ≤ b.toNat) && decide ((b.toNat : Int) ≤ 70)) = false := by
          simp only [Bool.and_eq_false_iff, decide_eq_false_iff_not]; omega
        refine ⟨99, c114 rfl _ H ?_, by simp [digit, h1'] <;> omega⟩
        unfold g114
        simp +contextual -implicitDefEqProofs [guard_t', guard_f', cond_b', ite_ok, ite_pair, pick_and, pick_or, guard_it, guard_if, guard_et, guard_ef, h1', h2', h3']

theorem named_loop (s : List UInt8) (hs : s.length < 1099511627776) (H : Heap) : ∀ k i, i + k = s.length →
    loopW (g96_l4 (W m) loopW H) ([.str s, .int .i64 s.length, .int .i64 (i : Nat)], [], H.start) = .ok (.bool ((s.drop i).all within), H)
  | 0, i, h => by
    refine loopW_done fun k => ?_
    have h1 : ¬ ((i : Int) < s.length) := by omega
    unfold g96_l4
    simp [h1, List.drop_eq_nil_of_le (show s.length ≤ i by omega)]
  | k + 1, i, h => by
    have hi : i < s.length := by omega
    have h1 : (i : Int) < s.length := by omega
    rw [List.drop_eq_getElem_cons hi, List.all_cons]
    cases hw : within s[i] with
    | false =>
      refine loopW_done fun k => ?_
      unfold g96_l4
      simp [h1, index_strn hi, s_within, hw]
    | true =>
      refine loopW_step (s' := ([.str s, .int .i64 s.length, .int .i64 ((i + 1 : Nat) : Int)], [], H.start)) (fun k => ?_) (by rw [Bool.true_and]; exact named_loop s hs H k (i + 1) (by omega))
      unfold g96_l4
      simp [h1, index_strn hi, s_within, hw, wrap_i64 (x := (i : Int) + 1) (by omega) (by omega)]
theorem s_named (s : List UInt8) (hs : s.length < 1099511627776) (H : Heap) : W m 96 [.str s] H = .ok (.bool (named s), H) := by
  refine c96 rfl s H ?_
  unfold g96
  cases s with
  | nil => simp [named]
  | cons c r =>
    obtain ⟨n, h1, h2⟩ := s_digit (m := m) c H.start
    have h3 := named_loop (m := m) (c :: r) hs H (r.length + 1) 0 (by simp)
    simp only [List.length_cons, List.drop_zero, Int.natCast_add, Int.natCast_one] at h3
    cases hd : digit c <;> simp [named, index_str (s := c :: r) (k := .i64) (i := 0) (by decide) rfl, h1, h2, hd, guard_t', guard_f', cond_b', ite_ok, ite_pair, pick_and, pick_or, guard_it, guard_if, guard_et, guard_ef]
    simpa using h3
end Go.Proofs.YtnhblghplohonaaGreatDoor.Ab
/- Walks: names and words, lists of words, prefixes. -/
namespace Go.Proofs.YtnhblghplohonaaGreatDoor.Ab
open Go
variable {m : Int}

def nm7 : Bool → List UInt8 → Bool
  | _, [] => true
  | f, c :: r => (letter c || (!f && digit c)) && nm7 false r
theorem nm7_false (r : List UInt8) : nm7 false r = r.all within := by
  induction r with
  | nil => rfl
  | cons c r ih => rw [nm7, ih, List.all_cons, within_eq]; simp
theorem letter_digit (c : UInt8) (h : letter c = true) : digit c = false := by
  unfold letter at h; unfold digit
  simp only [Bool.or_eq_true, Bool.and_eq_true, decide_eq_true_eq, beq_iff_eq] at h
  simp only [Bool.and_eq_false_iff, decide_eq_false_iff_not]
  omega
theorem nm7_named (s : List UInt8) : (nm7 true s && !(s == [])) = named s := by
  cases s with
  | nil => rfl
  | cons c r =>
    rw [nm7, nm7_false, named, List.all_cons, within_eq]
    have := letter_digit c
    cases hl : letter c <;> cases hd : digit c <;> simp_all
theorem named7_loop (s : List UInt8) (hs : s.length < 1099511627776) (H : Heap) : ∀ k i, i + k = s.length →
    loopW (g57_l2 (W m) loopW H) ([.str s, .int .i64 (i : Nat)], [], H.start) = .ok (.bool (nm7 (i == 0) (s.drop i) && !(s == [])), H)
  | 0, i, h => by
    refine loopW_done fun k => ?_
    have h1 : ¬ ((i : Int) < s.length) := by omega
    unfold g57_l2
    simp [h1, List.drop_eq_nil_of_le (show s.length ≤ i by omega), nm7]
  | k + 1, i, h => by
    have hi : i < s.length := by omega
    have h1 : (i : Int) < s.length := by omega
    have hz : ((i : Int) == 0) = (i == 0) := by rw [Bool.eq_iff_iff]; simp
    rw [List.drop_eq_getElem_cons hi, nm7]
    cases hw : (letter s[i] || (!(i == 0) && digit s[i])) with
    | false =>
      refine loopW_done fun k => ?_
      simp only [Bool.or_eq_false_iff] at hw
      unfold g57_l2
      simp only [bind_ok, len_str, bin_lss, List.getD_cons_zero, List.getD_cons_succ, h1, decide_true, cond_tt, index_strn hi, s_letter, hw.1, un_not, Bool.not_false, guard_tt, bin_eql, hz, pick_bb, cond, Bool.and_eq_false_iff]
      cases hi0 : (i == 0)
      · rw [hi0] at hw
        simp [s_digit7, index_strn hi] at hw ⊢
        simp [hw]
      · simp
    | true =>
      refine loopW_step (s' := ([.str s, .int .i64 ((i + 1 : Nat) : Int)], [], H.start)) (fun k => ?_) (by rw [Bool.true_and]; exact named7_loop s hs H k (i + 1) (by omega))
      simp only [Bool.or_eq_true] at hw
      unfold g57_l2
      simp only [bind_ok, len_str, bin_lss, List.getD_cons_zero, List.getD_cons_succ, h1, decide_true, cond_tt, index_strn hi, s_letter, un_not]
      cases hl : letter s[i]
      · rw [hl] at hw
        simp only [Bool.false_eq_true, false_or, Bool.and_eq_true, Bool.not_eq_true'] at hw
        simp [hz, hw.1, hw.2, s_digit7, index_strn hi, wrap_i64 (x := (i : Int) + 1) (by omega) (by omega)]
      · simp [wrap_i64 (x := (i : Int) + 1) (by omega) (by omega)]
theorem s_named7 (s : List UInt8) (hs : s.length < 1099511627776) (H : Heap) : W m 57 [.str s] H = .ok (.bool (named s), H) := by
  refine c57 rfl s H ?_
  unfold g57
  have h := named7_loop (m := m) s hs H s.length 0 (by simp)
  rw [List.drop_zero, show ((0 : Nat) == 0) = true from rfl, nm7_named] at h
  exact h

def words : List UInt8 := [32, 98, 114, 101, 97, 107, 32, 99, 104, 97, 114, 32, 99, 111, 110, 116, 105, 110, 117, 101, 32, 100, 111, 32, 101, 108, 115, 101, 32, 102, 111, 114, 32, 103, 101, 116, 98, 121, 116, 101, 32, 105, 102, 32, 105, 110, 116, 32, 112, 117, 116, 98, 121, 116, 101, 32, 114, 101, 116, 117, 114, 110, 32, 115, 105, 122, 101, 111, 102, 32, 115, 116, 114, 117, 99, 116, 32, 117, 105, 110, 116, 32, 118, 111, 105, 100, 32, 119, 104, 105, 108, 101, 32]
theorem fold_words : ([32, 98, 114, 101, 97, 107, 32, 99, 104, 97, 114, 32, 99, 111, 110, 116, 105, 110, 117, 101, 32, 100, 111, 32, 101, 108, 115, 101, 32, 102, 111, 114, 32, 103, 101, 116, 98, 121, 116, 101, 32, 105, 102, 32, 105, 110, 116, 32, 112, 117, 116, 98, 121, 116, 101, 32, 114, 101, 116, 117, 114, 110, 32, 115, 105, 122, 101, 111, 102, 32, 115, 116, 114, 117, 99, 116, 32, 117, 105, 110, 116, 32, 118, 111, 105, 100, 32, 119, 104, 105, 108, 101, 32] : List UInt8) = words := rfl
theorem words_length : words.length = 93 := rfl
def reserved (s : List UInt8) : Bool := named s && Lib.contains words (32 :: s ++ [32])
theorem s_reserved (s : List UInt8) (hs : s.length < 1099511627776) (H : Heap) : W m 97 [.str s] H = .ok (.bool (reserved s), H) := by
  refine c97 rfl s H ?_
  unfold g97 reserved
  rw [fold_words]
  have hc : ∀ H, W m 98 [.str words, .str (32 :: (s ++ [32]))] H = .ok (.bool (Lib.contains words (32 :: (s ++ [32]))), H) := fun H => sContains (by rw [words_length]; decide) H
  simp +contextual -implicitDefEqProofs (disch := first | omega | (simp only [List.length_append, List.length_cons, List.length_nil]; omega) | assumption) [guard_t', guard_f', cond_b', ite_ok, ite_pair, pick_and, pick_or, guard_it, guard_if, guard_et, guard_ef, s_named s hs, sadd, hc]
/-- A word at a place, in the reference's words. -/
theorem occ_parts {w s : List UInt8} {i : Nat} (h : i + s.length + 2 ≤ w.length) : occ w s i = (w[i]'(by omega) == 32 && ((w.take (i + 1 + s.length)).drop (i + 1) == s) && w[i + 1 + s.length]'(by omega) == 32) := by
  unfold occ
  rw [List.getElem?_eq_getElem (by omega), List.getElem?_eq_getElem (by omega), List.drop_take]
  simp
theorem slice_str {s : List UInt8} {k k' : IntKind} {i j : Int} (h : 0 ≤ i) (h' : i ≤ j) (h'' : j ≤ s.length) : M.sliceStr (.str s) (some (.int k i)) (some (.int k' j)) = .ok (.str ((s.take j.toNat).drop i.toNat)) := by simp [M.sliceStr, M.bound, h, h', h'']
theorem beq_u8 (a : UInt8) (n : Nat) (h : n < 256) : ((a.toNat : Int) == (n : Int)) = (a == UInt8.ofNat n) := by
  rw [Bool.eq_iff_iff]
  simp only [beq_iff_eq]
  constructor
  · intro h'; exact UInt8.toNat_inj.mp (by rw [UInt8.toNat_ofNat']; omega)
  · rintro rfl; rw [UInt8.toNat_ofNat']; omega
theorem beq_u8_32 (a : UInt8) : ((a.toNat : Int) == 32) = (a == 32) := beq_u8 a 32 (by decide)
theorem reserved7_loop (s : List UInt8) (hs : s.length < 1099511627776) (H : Heap) : ∀ k i, i + k = 94 → ∃ r,
    loopW (g58_l4 (W m) loopW H) ([.str s, .int .i64 (i : Nat)], [], H.start) = .ok (.bool r, H) ∧ (r = true ↔ ∃ j, i ≤ j ∧ occ words s j = true)
  | 0, i, h => by
    have h1 : ¬ ((i : Int) + s.length + 2 ≤ 93) := by omega
    refine ⟨false, loopW_done fun k => ?_, by simp; intro x hx; cases ho : occ words s x; rfl; have := occ_lt ho; rw [words_length] at this; omega⟩
    unfold g58_l4
    rw [fold_words]
    simp [h1, wrap_i64 (x := (i : Int) + s.length) (by omega) (by omega), wrap_i64 (x := (i : Int) + s.length + 2) (by omega) (by omega)]
  | k + 1, i, h => by
    by_cases h1 : (i : Int) + s.length + 2 ≤ 93
    · have hi : i < words.length := by rw [words_length]; omega
      have hj : i + 1 + s.length < words.length := by rw [words_length]; omega
      have e1 : M.indexStr (.str words) (.int .i64 (i : Int)) = .ok (.int .u8 (words[i].toNat)) := index_strn hi
      have e2 : M.indexStr (.str words) (.int .i64 ((i : Int) + 1 + s.length)) = .ok (.int .u8 ((words[i + 1 + s.length]'hj).toNat)) := index_str (by omega) (by rw [show ((i : Int) + 1 + s.length).toNat = i + 1 + s.length by omega]; exact List.getElem?_eq_getElem hj)
      have e3 : M.sliceStr (.str words) (some (.int .i64 ((i : Int) + 1))) (some (.int .i64 ((i : Int) + 1 + s.length))) = .ok (.str ((words.take (i + 1 + s.length)).drop (i + 1))) := by
        rw [slice_str (by omega) (by omega) (by rw [words_length]; omega)]
        rw [show ((i : Int) + 1 + s.length).toNat = i + 1 + s.length by omega, show ((i : Int) + 1).toNat = i + 1 by omega]
      have ho := occ_parts (w := words) (s := s) (i := i) (by rw [words_length]; omega)
      have w1 := wrap_i64 (x := (i : Int) + s.length) (by omega) (by omega)
      have w2 := wrap_i64 (x := (i : Int) + s.length + 2) (by omega) (by omega)
      have w3 := wrap_i64 (x := (i : Int) + 1) (by omega) (by omega)
      have w4 := wrap_i64 (x := (i : Int) + 1 + s.length) (by omega) (by omega)
      obtain ⟨r, hr, hr'⟩ := reserved7_loop s hs H k (i + 1) (by omega)
      cases hx : occ words s i with
      | true =>
        rw [hx] at ho
        refine ⟨true, loopW_done fun k => ?_, by simp; exact ⟨i, Nat.le_refl _, hx⟩⟩
        unfold g58_l4
        rw [fold_words]
        simp +contextual -implicitDefEqProofs [guard_t', guard_f', cond_b', ite_ok, ite_pair, pick_and, pick_or, guard_it, guard_if, guard_et, guard_ef, h1, e1, e2, e3, w1, w2, w3, w4, beq_u8_32, ← ho]
      | false =>
        rw [hx] at ho
        refine ⟨r, loopW_step (s' := ([.str s, .int .i64 ((i + 1 : Nat) : Int)], [], H.start)) (fun k => ?_) hr, ?_⟩
        · unfold g58_l4
          rw [fold_words]
          simp +contextual -implicitDefEqProofs [guard_t', guard_f', cond_b', ite_ok, ite_pair, pick_and, pick_or, guard_it, guard_if, guard_et, guard_ef, h1, e1, e2, e3, w1, w2, w3, w4, beq_u8_32, ← ho]
        · rw [hr']
          constructor
          · rintro ⟨j, h2, h3⟩; exact ⟨j, by omega, h3⟩
          · rintro ⟨j, h2, h3⟩
            rcases Nat.eq_or_lt_of_le h2 with rfl | h4
            · rw [hx] at h3; cases h3
            · exact ⟨j, h4, h3⟩
    · refine ⟨false, loopW_done fun k => ?_, by simp; intro x hx; cases ho : occ words s x; rfl; have := occ_lt ho; rw [words_length] at this; omega⟩
      unfold g58_l4
      rw [fold_words]
      simp [h1, wrap_i64 (x := (i : Int) + s.length) (by omega) (by omega), wrap_i64 (x := (i : Int) + s.length + 2) (by omega) (by omega)]
theorem s_reserved7 (s : List UInt8) (hs : s.length < 1099511627776) (H : Heap) : W m 58 [.str s] H = .ok (.bool (reserved s), H) := by
  refine c58 rfl s H ?_
  unfold g58
  obtain ⟨r, hr, hr'⟩ := reserved7_loop (m := m) s hs H 94 0 (by simp)
  have : r = Lib.contains words (32 :: s ++ [32]) := by
    rw [Bool.eq_iff_iff, hr', contains_occ]
    constructor
    · rintro ⟨j, _, h⟩; exact ⟨j, h⟩
    · rintro ⟨j, h⟩; exact ⟨j, Nat.zero_le _, h⟩
  rw [reserved, ← this]
  cases hn : named s with
  | false => simp [s_named7 s hs, hn]
  | true => simp [s_named7 s hs, hn]; exact hr
end Go.Proofs.YtnhblghplohonaaGreatDoor.Ab
/- Walks: words of lists, names, types. -/
namespace Go.Proofs.YtnhblghplohonaaGreatDoor.Ab
open Go
variable {m : Int}

theorem s_one {l w : List UInt8} (hl : l.length < 1073741824) (hw : w.length < 1073741824) (H : Heap) : W m 68 [.str l, .str w] H = .ok (.bool (one l w), H) := by
  refine c68 rfl l w H ?_
  unfold g68 one
  have hc : ∀ H, W m 98 [.str (32 :: (l ++ [32])), .str (32 :: (w ++ [32]))] H = .ok (.bool (Lib.contains (32 :: (l ++ [32])) (32 :: (w ++ [32]))), H) := fun H => sContains (by simp; omega) H
  have hc2 : ∀ H, W m 98 [.str w, .str [32]] H = .ok (.bool (w.contains 32), H) := fun H => by rw [sContains (by omega) H, contains_byte]
  have e1 : ∀ s : List UInt8, s.length < 1073741824 → ∀ P t x y, M.bin P .add t x y (.str [32]) (.str s) = .ok (.str (32 :: s)) := fun s hs P t x y => sadd P t x y (by simp; omega)
  have e2 : ∀ s : List UInt8, s.length < 1073741824 → ∀ P t x y, M.bin P .add t x y (.str (32 :: s)) (.str [32]) = .ok (.str (32 :: (s ++ [32]))) := fun s hs P t x y => sadd P t x y (by simp; omega)
  simp +contextual -implicitDefEqProofs [guard_t', guard_f', cond_b', ite_ok, ite_pair, pick_and, pick_or, guard_it, guard_if, guard_et, guard_ef, hc, hc2, e1 l hl, e2 l hl, e1 w hw, e2 w hw]

def sign (l w : List UInt8) : Bool := !(w == []) && !(w.contains 32) && Lib.contains l (32 :: w ++ [32])
theorem one_sign (l w : List UInt8) : one l w = sign (32 :: l ++ [32]) w := rfl
theorem sign_loop2 (l s : List UInt8) (hl : l.length < 1073741824) (hs : s.length < 1073741824) (H : Heap) : ∀ k i, i + k = l.length + 1 → ∃ r,
    loopW (g110_l9 (W m) loopW H) ([.str l, .str s, .int .i64 (i : Nat)], [], H.start) = .ok (.bool r, H) ∧ (r = true ↔ ∃ j, i ≤ j ∧ occ l s j = true)
  | 0, i, h => by
    have h1 : ¬ ((i : Int) + s.length + 2 ≤ l.length) := by omega
    refine ⟨false, loopW_done fun k => ?_, by simp; intro x hx; cases ho : occ l s x; rfl; have := occ_lt ho; omega⟩
    unfold g110_l9
    simp [h1, wrap_i64 (x := (i : Int) + s.length) (by omega) (by omega), wrap_i64 (x := (i : Int) + s.length + 2) (by omega) (by omega)]
  | k + 1, i, h => by
    by_cases h1 : (i : Int) + s.length + 2 ≤ l.length
    · have hi : i < l.length := by omega
      have hj : i + 1 + s.length < l.length := by omega
      have e1 : M.indexStr (.str l) (.int .i64 (i : Int)) = .ok (.int .u8 (l[i].toNat)) := index_strn hi
      have e2 : M.indexStr (.str l) (.int .i64 ((i : Int) + 1 + s.length)) = .ok (.int .u8 ((l[i + 1 + s.length]'hj).toNat)) := index_str (by omega) (by rw [show ((i : Int) + 1 + s.length).toNat = i + 1 + s.length by omega]; exact List.getElem?_eq_getElem hj)
      have e3 : M.sliceStr (.str l) (some (.int .i64 ((i : Int) + 1))) (some (.int .i64 ((i : Int) + 1 + s.length))) = .ok (.str ((l.take (i + 1 + s.length)).drop (i + 1))) := by
        rw [slice_str (by omega) (by omega) (by omega)]
        rw [show ((i : Int) + 1 + s.length).toNat = i + 1 + s.length by omega, show ((i : Int) + 1).toNat = i + 1 by omega]
      have ho := occ_parts (w := l) (s := s) (i := i) (by omega)
      have w1 := wrap_i64 (x := (i : Int) + s.length) (by omega) (by omega)
      have w2 := wrap_i64 (x := (i : Int) + s.length + 2) (by omega) (by omega)
      have w3 := wrap_i64 (x := (i : Int) + 1) (by omega) (by omega)
      have w4 := wrap_i64 (x := (i : Int) + 1 + s.length) (by omega) (by omega)
      obtain ⟨r, hr, hr'⟩ := sign_loop2 l s hl hs H k (i + 1) (by omega)
      cases hx : occ l s i with
      | true =>
        rw [hx] at ho
        refine ⟨true, loopW_done fun k => ?_, by simp; exact ⟨i, Nat.le_refl _, hx⟩⟩
        unfold g110_l9
        simp +contextual -implicitDefEqProofs [guard_t', guard_f', cond_b', ite_ok, ite_pair, pick_and, pick_or, guard_it, guard_if, guard_et, guard_ef, h1, e1, e2, e3, w1, w2, w3, w4, beq_u8_32, ← ho]
      | false =>
        rw [hx] at ho
        refine ⟨r, loopW_step (s' := ([.str l, .str s, .int .i64 ((i + 1 : Nat) : Int)], [], H.start)) (fun k => ?_) hr, ?_⟩
        · unfold g110_l9
          simp +contextual -implicitDefEqProofs [guard_t', guard_f', cond_b', ite_ok, ite_pair, pick_and, pick_or, guard_it, guard_if, guard_et, guard_ef, h1, e1, e2, e3, w1, w2, w3, w4, beq_u8_32, ← ho]
        · rw [hr']
          constructor
          · rintro ⟨j, h2, h3⟩; exact ⟨j, by omega, h3⟩
          · rintro ⟨j, h2, h3⟩
            rcases Nat.eq_or_lt_of_le h2 with rfl | h4
            · rw [hx] at h3; cases h3
            · exact ⟨j, h4, h3⟩
    · refine ⟨false, loopW_done fun k => ?_, by simp; intro x hx; cases ho : occ l s x; rfl; have := occ_lt ho; omega⟩
      unfold g110_l9
      simp [h1, wrap_i64 (x := (i : Int) + s.length) (by omega) (by omega), wrap_i64 (x := (i : Int) + s.length + 2) (by omega) (by omega)]
theorem sign_loop2' (l s : List UInt8) (hl : l.length < 1073741824) (hs : s.length < 1073741824) (H : Heap) :
    loopW (g110_l9 (W m) loopW H) ([.str l, .str s, .int .i64 0], [], H.start) = .ok (.bool (Lib.contains l (32 :: s ++ [32])), H) := by
  obtain ⟨r, hr, hr'⟩ := sign_loop2 (m := m) l s hl hs H (l.length + 1) 0 (by simp)
  have : r = Lib.contains l (32 :: s ++ [32]) := by
    rw [Bool.eq_iff_iff, hr', contains_occ]
    constructor
    · rintro ⟨j, _, h⟩; exact ⟨j, h⟩
    · rintro ⟨j, h⟩; exact ⟨j, Nat.zero_le _, h⟩
  rw [← this]; exact hr
theorem sign_loop1 (l s : List UInt8) (hl : l.length < 1073741824) (hs : s.length < 1073741824) (H : Heap) : ∀ k i, i + k = s.length →
    loopW (g110_l4 (W m) loopW H) ([.str l, .str s, .int .i64 (i : Nat)], [], H.start) = .ok (.bool (!((s.drop i).contains 32) && Lib.contains l (32 :: s ++ [32])), H)
  | 0, i, h => by
    refine loopW_done fun k => ?_
    have h1 : ¬ ((i : Int) < s.length) := by omega
    have h2 := sign_loop2' (m := m) l s hl hs H
    unfold g110_l4
    simp [h1, List.drop_eq_nil_of_le (show s.length ≤ i by omega)]
    simpa using h2
  | k + 1, i, h => by
    have hi : i < s.length := by omega
    have h1 : (i : Int) < s.length := by omega
    have hd : (s.drop i).contains 32 = ((32 == s[i]) || (s.drop (i + 1)).contains 32) := by rw [List.drop_eq_getElem_cons hi, List.contains_cons]
    rw [hd]
    cases hw : (s[i] == 32) with
    | true =>
      have hw' : s[i] = 32 := by simpa using hw
      refine loopW_done fun k => ?_
      unfold g110_l4
      simp [h1, index_strn hi, beq_u8_32, hw']
    | false =>
      have hw' : ¬ s[i] = 32 := by simpa using hw
      have hw2 : ¬ 32 = s[i] := fun h => hw' h.symm
      refine loopW_step (s' := ([.str l, .str s, .int .i64 ((i + 1 : Nat) : Int)], [], H.start)) (fun k => ?_) (by rw [sign_loop1 l s hl hs H k (i + 1) (by omega)]; rw [show ((32 : UInt8) == s[i]) = false by simp [hw2]]; rfl)
      unfold g110_l4
      simp [h1, index_strn hi, beq_u8_32, hw, wrap_i64 (x := (i : Int) + 1) (by omega) (by omega)]
theorem s_sign {l s : List UInt8} (hl : l.length < 1073741824) (hs : s.length < 1073741824) (H : Heap) : W m 110 [.str l, .str s] H = .ok (.bool (sign l s), H) := by
  refine c110 rfl l s H ?_
  unfold g110 sign
  have h := sign_loop1 (m := m) l s hl hs H s.length 0 (by simp)
  cases s with
  | nil => simp
  | cons c r => simpa using h

def name (s : List UInt8) : Bool := named s && !(reserved s)
theorem s_name {s : List UInt8} (hs : s.length < 1099511627776) (H : Heap) : W m 66 [.str s] H = .ok (.bool (name s), H) := by
  refine c66 rfl s H ?_
  unfold g66 name
  simp +contextual -implicitDefEqProofs [guard_t', guard_f', cond_b', ite_ok, ite_pair, pick_and, pick_or, guard_it, guard_if, guard_et, guard_ef, s_named s hs, s_reserved s hs]
theorem s_name8 {s : List UInt8} (hs : s.length < 1099511627776) (H : Heap) : W m 37 [.str s] H = .ok (.bool (name s), H) := by
  refine c37 rfl s H ?_
  unfold g37 name
  simp +contextual -implicitDefEqProofs [guard_t', guard_f', cond_b', ite_ok, ite_pair, pick_and, pick_or, guard_it, guard_if, guard_et, guard_ef, s_named7 s hs, s_reserved7 s hs]

theorem slice_str_to {s : List UInt8} {k' : IntKind} {j : Int} (h : 0 ≤ j) (h'' : j ≤ s.length) : M.sliceStr (.str s) none (some (.int k' j)) = .ok (.str (s.take j.toNat)) := by simp [M.sliceStr, M.bound, h, h'']
theorem slice_str_from {s : List UInt8} {k : IntKind} {i : Int} (h : 0 ≤ i) (h'' : i ≤ s.length) : M.sliceStr (.str s) (some (.int k i)) none = .ok (.str (s.drop i.toNat)) := by simp [M.sliceStr, M.bound, h, h'']
theorem prefix_iff (s p : List UInt8) : p.isPrefixOf s = (decide (p.length ≤ s.length) && (s.take p.length == p)) := by
  rw [Bool.eq_iff_iff]
  simp only [List.isPrefixOf_iff_prefix, Bool.and_eq_true, decide_eq_true_eq, beq_iff_eq]
  constructor
  · rintro ⟨r, rfl⟩; simp
  · rintro ⟨_, h⟩; exact ⟨s.drop p.length, by conv => lhs; rw [← h]; rw [List.length_take, Nat.min_eq_left (by omega), List.take_append_drop]⟩
theorem s_hasPrefix' (s p : List UInt8) (H : Heap) : W m 107 [.str s, .str p] H = .ok (.bool (p.isPrefixOf s), H) := by
  refine c107 rfl s p H ?_
  unfold g107
  rw [prefix_iff]
  by_cases h : p.length ≤ s.length
  · have h' : (p.length : Int) ≤ s.length := by omega
    simp [h, h', slice_str_to (s := s) (k' := .i64) (j := p.length) (by omega) h']
  · have h' : ¬ (p.length : Int) ≤ s.length := by omega
    simp [h, h']
theorem s_hasPrefix (s p : List UInt8) (H : Heap) : W m 84 [.str s, .str p] H = .ok (.bool (p.isPrefixOf s), H) := by
  refine c84 rfl s p H ?_
  unfold g84
  simp [s_hasPrefix']
theorem gc_tup_sb (a : List UInt8) (b : Bool) (H : Heap) : gc (.tup [.str a, .bool b]) H H.start = (.tup [.str a, .bool b], H) := gc_start rfl
theorem s_cutPrefix (s p : List UInt8) (H : Heap) : W m 100 [.str s, .str p] H = .ok (.tup [.str (if p.isPrefixOf s then s.drop p.length else s), .bool (p.isPrefixOf s)], H) := by
  have h1 : ∀ H, W m 117 [.str s, .str p] H = .ok (.tup [.str (if p.isPrefixOf s then s.drop p.length else s), .bool (p.isPrefixOf s)], H) := fun H => by
    refine c117 rfl s p H ?_
    unfold g117
    cases h : p.isPrefixOf s with
    | false => simp [s_hasPrefix', h, gc_tup_sb]
    | true =>
      have h' : p.length ≤ s.length := by rw [prefix_iff] at h; simp at h; exact h.1
      simp [s_hasPrefix', h, gc_tup_sb, slice_str_from (s := s) (k := .i64) (i := p.length) (by omega) (by omega)]
  refine c100 rfl s p H ?_
  unfold g100
  simp [h1, M.extract, M.ofOpt, gc_tup_sb]

/-- May a type's name be? -/
def typed (s : List UInt8) : Bool := (([115, 116, 114, 117, 99, 116, 32] : List UInt8).isPrefixOf s && name (s.drop 7)) || (s == [105, 110, 116] || s == [117, 105, 110, 116] || s == [99, 104, 97, 114] || s == [118, 111, 105, 100])
theorem types_one (s : List UInt8) : one [105, 110, 116, 32, 117, 105, 110, 116, 32, 99, 104, 97, 114, 32, 118, 111, 105, 100] s = (s == [105, 110, 116] || s == [117, 105, 110, 116] || s == [99, 104, 97, 114] || s == [118, 111, 105, 100]) := by
  rw [Bool.eq_iff_iff]
  constructor
  · intro h
    have := one_cases (ts := [[105, 110, 116], [117, 105, 110, 116], [99, 104, 97, 114], [118, 111, 105, 100]]) h (by decide +kernel)
    simpa [or_assoc] using this
  · intro h
    simp only [Bool.or_eq_true, beq_iff_eq] at h
    rcases h with ((rfl | rfl) | rfl) | rfl <;> decide +kernel
theorem s_typed {s : List UInt8} (hs : s.length < 1073741824) (H : Heap) : W m 72 [.str s] H = .ok (.bool (typed s), H) := by
  refine c72 rfl s H ?_
  unfold g72 typed
  have h1 : (s.drop 7).length < 1099511627776 := by simp; omega
  have hc : ∀ H, W m 68 [.str [105, 110, 116, 32, 117, 105, 110, 116, 32, 99, 104, 97, 114, 32, 118, 111, 105, 100], .str s] H = .ok (.bool (s == [105, 110, 116] || s == [117, 105, 110, 116] || s == [99, 104, 97, 114] || s == [118, 111, 105, 100]), H) := fun H => by rw [s_one (by decide) hs, types_one]
  cases h : ([115, 116, 114, 117, 99, 116, 32] : List UInt8).isPrefixOf s with
  | false => simp +contextual -implicitDefEqProofs [guard_t', guard_f', cond_b', ite_ok, ite_pair, pick_and, pick_or, guard_it, guard_if, guard_et, guard_ef, s_cutPrefix, h, M.extract, M.ofOpt, hc]
  | true => simp +contextual -implicitDefEqProofs [guard_t', guard_f', cond_b', ite_ok, ite_pair, pick_and, pick_or, guard_it, guard_if, guard_et, guard_ef, s_cutPrefix, h, M.extract, M.ofOpt, hc, s_name h1]
end Go.Proofs.YtnhblghplohonaaGreatDoor.Ab
/- Walks: function values over lists of nodes; 'every', 'shape'; kinds. -/
namespace Go.Proofs.YtnhblghplohonaaGreatDoor.Ab
open Go
variable {m : Int}

def isE (n : Nd) : Bool := decide (1 ≤ n.kind) && decide (n.kind ≤ 15)
def isS (n : Nd) : Bool := n.kind == 47 || decide (48 ≤ n.kind) && decide (n.kind ≤ 56)
def isP (n : Nd) : Bool := n.kind == 4 || n.kind == 5 || n.kind == 6 || n.kind == 7
def isK (k : Int) (n : Nd) : Bool := n.kind == k
theorem s_expression (n : Nd) (H : Heap) : W m 47 [n.av] H = .ok (.bool (isE n), H) := by
  rw [n.av_eq]
  refine c47 rfl n.kind n.str n.num n.flag _ n.pos H ?_
  unfold g47 isE
  simp +contextual -implicitDefEqProofs [guard_t', guard_f', cond_b', ite_ok, ite_pair, pick_and, pick_or, guard_it, guard_if, guard_et, guard_ef]
theorem s_statement (n : Nd) (H : Heap) : W m 49 [n.av] H = .ok (.bool (isS n), H) := by
  rw [n.av_eq]
  refine c49 rfl n.kind n.str n.num n.flag _ n.pos H ?_
  unfold g49 isS
  simp +contextual -implicitDefEqProofs [guard_t', guard_f', cond_b', ite_ok, ite_pair, pick_and, pick_or, guard_it, guard_if, guard_et, guard_ef]
theorem s_place (n : Nd) (H : Heap) : W m 69 [n.av] H = .ok (.bool (isP n), H) := by
  rw [n.av_eq]
  refine c69 rfl n.kind n.str n.num n.flag _ n.pos H ?_
  unfold g69 isP jn
  cases h4 : (n.kind == 4) <;> cases h5 : (n.kind == 5) <;> cases h6 : (n.kind == 6) <;> cases h7 : (n.kind == 7) <;> simp
theorem s_perhaps (n : Nd) (H : Heap) : W m 75 [n.av] H = .ok (.bool (n.kind == 56 || isE n), H) := by
  rw [n.av_eq]
  refine c75 rfl n.kind n.str n.num n.flag _ n.pos H ?_
  unfold g75
  simp +contextual -implicitDefEqProofs [guard_t', guard_f', cond_b', ite_ok, ite_pair, pick_and, pick_or, guard_it, guard_if, guard_et, guard_ef, s_expression]
theorem s_expr1 (n : Nd) (H : Heap) : W m 71 [n.av] H = .ok (.bool (n.kind == 16 || isE n), H) := by
  rw [n.av_eq]
  refine c71 rfl n.kind n.str n.num n.flag _ n.pos H ?_
  unfold g71
  simp +contextual -implicitDefEqProofs [guard_t', guard_f', cond_b', ite_ok, ite_pair, pick_and, pick_or, guard_it, guard_if, guard_et, guard_ef, s_expression]
theorem s_stat1 (n : Nd) (H : Heap) : W m 73 [n.av] H = .ok (.bool (isS n || n.kind == 42), H) := by
  rw [n.av_eq]
  refine c73 rfl n.kind n.str n.num n.flag _ n.pos H ?_
  unfold g73
  simp +contextual -implicitDefEqProofs [guard_t', guard_f', cond_b', ite_ok, ite_pair, pick_and, pick_or, guard_it, guard_if, guard_et, guard_ef, s_statement]
theorem s_decl1 (n : Nd) (H : Heap) : W m 76 [n.av] H = .ok (.bool (n.kind == 41 || n.kind == 42 || n.kind == 45), H) := by
  rw [n.av_eq]
  refine c76 rfl n.kind n.str n.num n.flag _ n.pos H ?_
  unfold g76
  simp +contextual -implicitDefEqProofs [guard_t', guard_f', cond_b', ite_ok, ite_pair, pick_and, pick_or, guard_it, guard_if, guard_et, guard_ef]
theorem beq_len0 (l : List Nd) : ((l.length : Int) == 0) = l.isEmpty := by cases l <;> simp; omega
def bareV (v : Nd) : Bool := v.kind != 43 || v.kids.isEmpty || (v.flag && (v.kids.length : Int) == 1)
theorem s_bare1 (n : Nd) (H : Heap) : W m 101 [n.av] H = .ok (.bool (bareV n), H) := by
  rw [n.av_eq]
  refine c101 rfl n.kind n.str n.num n.flag _ n.pos H ?_
  unfold g101 bareV
  simp +contextual -implicitDefEqProofs [guard_t', guard_f', cond_b', ite_ok, ite_pair, pick_and, pick_or, guard_it, guard_if, guard_et, guard_ef, ← beq_len0]

/-- A function value that tells something of nodes of a list, over memory that is so. -/
structure Pred (m : Int) (Q : Heap → Prop) (f : AV) (p : Nd → Bool) (l : List Nd) : Prop where
  h : ∀ n ∈ l, ∀ H, Q H → ∀ (β : Type) (k : AV → Heap → Out β), callV (W m) f [n.av] H k = k (.bool (p n)) H
theorem Pred.of {i : Nat} {p : Nd → Bool} {l : List Nd} (h : ∀ n ∈ l, ∀ H, W m i [n.av] H = .ok (.bool (p n), H)) : Pred m (fun _ => True) (.fn (.func i) [] []) p l :=
  ⟨fun n hn H _ β k => by simp only [callV, fnOf, onO_some, List.nil_append, List.append_nil, h n hn H, bind_ok]⟩
theorem isK_of (k : Int) (H : Heap) : W m 70 [.int .i64 k] H = .ok (.fn (.func 99) [] [.iptr [.int .i64 k]], H) := by
  refine c70 rfl k H ?_
  unfold g70
  have hc : (H.start.alloc (.cells 3 [.int .i64 k])).cells H.n = some [.int .i64 k] := by
    simp only [Heap.cells, Heap.get_alloc, start_n, if_true]
  simp only [start_n]
  rw [gcz_fn1 (Nat.le_refl _) hc rfl]
theorem Pred.kind (k : Int) (l : List Nd) : Pred m (fun _ => True) (.fn (.func 99) [] [.iptr [.int .i64 k]]) (isK k) l :=
  ⟨fun n hn H _ β K => by
    have : W m 99 [n.av, .iptr [.int .i64 k]] H = .ok (.bool (isK k n), H) := by
      rw [n.av_eq]
      refine c99 rfl n.kind n.str n.num n.flag _ n.pos _ H ?_
      unfold g99
      simp [M.load, M.ldc, isK]
    simp only [callV, fnOf, onO_some, List.nil_append, List.cons_append, this, bind_ok]⟩

theorem indexFunc_loop {Q : Heap → Prop} {f : AV} {p : Nd → Bool} {l : List Nd} (hP : Pred m Q f p l) (hl : l.length < 1099511627776) (b : Bool) (H : Heap) (hQ : Q H.start) : ∀ k i, i + k = l.length → ∃ n : Int,
    loopW (g80_l2 (W m) loopW H) ([kv b l, f, .int .i64 l.length, .int .i64 (i : Nat)], [], H.start) = .ok (.int .i64 n, H) ∧ decide (0 ≤ n) = (l.drop i).any p
  | 0, i, h => by
    have h1 : ¬ ((i : Int) < l.length) := by omega
    refine ⟨-1, loopW_done fun k => ?_, by simp [List.drop_eq_nil_of_le (show l.length ≤ i by omega)]⟩
    unfold g80_l2
    simp [h1]
  | k + 1, i, h => by
    have hi : i < l.length := by omega
    have h1 : (i : Int) < l.length := by omega
    rw [List.drop_eq_getElem_cons hi, List.any_cons]
    have hc := fun (β : Type) (K : AV → Heap → Out β) => hP.h l[i] (List.getElem_mem hi) H.start hQ β K
    cases hw : p l[i] with
    | true =>
      refine ⟨i, loopW_done fun k => ?_, by simp⟩
      unfold g80_l2
      simp [h1, index_kvn hi, hc, hw]
    | false =>
      obtain ⟨n, hn, hn'⟩ := indexFunc_loop hP hl b H hQ k (i + 1) (by omega)
      refine ⟨n, loopW_step (s' := ([kv b l, f, .int .i64 l.length, .int .i64 ((i + 1 : Nat) : Int)], [], H.start)) (fun k => ?_) hn, by rw [hn']; simp⟩
      unfold g80_l2
      simp [h1, index_kvn hi, hc, hw, wrap_i64 (x := (i : Int) + 1) (by omega) (by omega)]
theorem s_containsFunc {Q : Heap → Prop} {f : AV} {p : Nd → Bool} {l : List Nd} (hP : Pred m Q f p l) (hl : l.length < 1099511627776) (b : Bool) (H : Heap) (hQ : ∀ H, Q H → Q H.start) (hQ' : Q H) :
    W m 52 [kv b l, f] H = .ok (.bool (l.any p), H) := by
  refine c52 rfl _ _ H ?_
  unfold g52
  obtain ⟨n, h1, h2⟩ := indexFunc_loop hP hl b H.start (hQ _ (hQ _ hQ')) l.length 0 (by simp)
  have : W m 80 [kv b l, f] H.start = .ok (.int .i64 n, H.start) := by
    refine c80 rfl _ _ _ ?_
    unfold g80
    simp only [len_kv, bind_ok]
    exact h1
  rw [List.drop_zero] at h2
  simp [this, h2]
theorem s_every {f : AV} {p : Nd → Bool} {l : List Nd} (hP : Pred m (fun _ => True) f p l) (hl : l.length < 1099511627776) (b : Bool) (H : Heap) (hf : f.one = true) (hc : f.cells = [f]) :
    W m 29 [kv b l, f] H = .ok (.bool (l.all p), H) := by
  refine c29 rfl _ _ H ?_
  unfold g29
  have hP2 : Pred m (fun h => h.cells H.n = some [f]) (.fn (.func 53) [] [.ref H.n 0]) (fun n => !(p n)) l := ⟨fun n hn H' hQ β K => by
    have : W m 53 [n.av, .ref H.n 0] H' = .ok (.bool (!(p n)), H') := by
      rw [n.av_eq]
      refine c53 rfl n.kind n.str n.num n.flag _ n.pos _ H' ?_
      unfold g53
      simp [M.load, hQ, M.ldc, hP.h n hn]
    simp only [callV, fnOf, onO_some, List.nil_append, List.cons_append, this, bind_ok]⟩
  have hcell : (H.start.alloc (.cells 30 [f])).cells H.n = some [f] := by
    simp only [Heap.cells, Heap.get_alloc, start_n, if_true]
  have h3 := s_containsFunc hP2 hl b (H.start.alloc (.cells 30 [f])) (fun H' hQ => by simpa using hQ) hcell
  simp only [M.cellsT, hf, if_true, hc, bind_ok, start_n, h3, un_not]
  rw [gc_quiet (by simp [Heap.alloc]) rfl]
  simp [List.all_eq_not_any_not]
end Go.Proofs.YtnhblghplohonaaGreatDoor.Ab
/- Walks: 'shape', and what a node may be but for its kids. -/
namespace Go.Proofs.YtnhblghplohonaaGreatDoor.Ab
open Go
variable {m : Int}

def zipAll : List (Nd → Bool) → List Nd → Bool
  | p :: ps, x :: xs => p x && zipAll ps xs
  | _, _ => true
def shape (l : List Nd) (ps : List (Nd → Bool)) : Bool := decide (l.length = ps.length) && zipAll ps l
inductive Preds (m : Int) (l : List Nd) : List AV → List (Nd → Bool) → Prop where
  | nil : Preds m l [] []
  | cons {f : AV} {p : Nd → Bool} {fs : List AV} {ps : List (Nd → Bool)} (h : Pred m (fun _ => True) f p l) (hc : f.cells = [f]) (t : Preds m l fs ps) : Preds m l (f :: fs) (p :: ps)
theorem Preds.length {l : List Nd} {fs : List AV} {ps : List (Nd → Bool)} (h : Preds m l fs ps) : fs.length = ps.length := by
  induction h with
  | nil => rfl
  | cons _ _ _ ih => simp [ih]
theorem Preds.get {l : List Nd} {fs : List AV} {ps : List (Nd → Bool)} (h : Preds m l fs ps) : ∀ (i : Nat) (p : Nd → Bool), ps[i]? = some p → ∃ f, fs[i]? = some f ∧ f.cells = [f] ∧ Pred m (fun _ => True) f p l := by
  induction h with
  | nil => intro i p h; simp at h
  | cons hp hc _ ih =>
    intro i p h
    cases i with
    | zero => simp only [List.getElem?_cons_zero, Option.some.injEq] at h; subst h; exact ⟨_, rfl, hc, hp⟩
    | succ i => exact ih i p (by simpa using h)
theorem zipAll_drop {ps : List (Nd → Bool)} {l : List Nd} : ∀ (i : Nat) {p : Nd → Bool} {x : Nd}, ps[i]? = some p → l[i]? = some x → zipAll (ps.drop i) (l.drop i) = (p x && zipAll (ps.drop (i + 1)) (l.drop (i + 1))) := by
  intro i p x h1 h2
  have hi : i < ps.length := by
    rcases Nat.lt_or_ge i ps.length with h | h
    · exact h
    · rw [List.getElem?_eq_none h] at h1; cases h1
  have hj : i < l.length := by
    rcases Nat.lt_or_ge i l.length with h | h
    · exact h
    · rw [List.getElem?_eq_none h] at h2; cases h2
  rw [List.getElem?_eq_getElem hi] at h1
  rw [List.getElem?_eq_getElem hj] at h2
  cases h1
  cases h2
  rw [List.drop_eq_getElem_cons hi, List.drop_eq_getElem_cons hj, zipAll]
theorem shape_loop {l : List Nd} {fs : List AV} {ps : List (Nd → Bool)} (hP : Preds m l fs ps) (hl : l.length = ps.length) (hl' : l.length < 1099511627776) (b : Bool) (H : Heap) : ∀ k i, i + k = l.length →
    loopW (g67_l4 (W m) loopW H) ([kv b l, .isl 1 fs, .int .i64 fs.length, .int .i64 (i : Nat)], [], H.start) = .ok (.bool (zipAll (ps.drop i) (l.drop i)), H)
  | 0, i, h => by
    have h1 : ¬ ((i : Int) < fs.length) := by rw [hP.length]; omega
    refine loopW_done fun k => ?_
    unfold g67_l4
    rw [List.drop_eq_nil_of_le (show l.length ≤ i by omega), List.drop_eq_nil_of_le (show ps.length ≤ i by omega)]
    simp [h1, zipAll]
  | k + 1, i, h => by
    have hi : i < l.length := by omega
    have h1 : (i : Int) < fs.length := by rw [hP.length]; omega
    obtain ⟨f, hf, hc, hp⟩ := hP.get i (ps[i]'(by omega)) (List.getElem?_eq_getElem (by omega))
    have e1 : M.indexSl 1 (.isl 1 fs) (.int .i64 (i : Int)) = .ok (.iptr [f]) := by simp [M.indexSl, hf, hc]
    rw [zipAll_drop i (List.getElem?_eq_getElem (show i < ps.length by omega)) (List.getElem?_eq_getElem hi)]
    have hcall := fun (β : Type) (K : AV → Heap → Out β) => hp.h l[i] (List.getElem_mem hi) H.start trivial β K
    cases hw : (ps[i]'(by omega)) l[i] with
    | false =>
      refine loopW_done fun k => ?_
      unfold g67_l4
      simp [h1, e1, index_kvn hi, hcall, hw]
    | true =>
      refine loopW_step (s' := ([kv b l, .isl 1 fs, .int .i64 fs.length, .int .i64 ((i + 1 : Nat) : Int)], [], H.start)) (fun k => ?_) (by rw [Bool.true_and]; exact shape_loop hP hl hl' b H k (i + 1) (by omega))
      unfold g67_l4
      simp [h1, e1, index_kvn hi, hcall, hw, wrap_i64 (x := (i : Int) + 1) (by omega) (by omega)]
theorem s_shape {l : List Nd} {fs : List AV} {ps : List (Nd → Bool)} (hP : Preds m l fs ps) (hl' : l.length < 1099511627776) (b : Bool) (H : Heap) : W m 67 [kv b l, .isl 1 fs] H = .ok (.bool (shape l ps), H) := by
  refine c67 rfl _ _ H ?_
  unfold g67 shape
  have hb : ((l.length : Int) != (fs.length : Int)) = !(decide (l.length = ps.length)) := by
    rw [hP.length, Bool.eq_iff_iff]; simp only [bne_iff_ne, ne_eq, Bool.not_eq_true', decide_eq_false_iff_not]; omega
  by_cases h : l.length = ps.length
  · have := shape_loop hP h hl' b H l.length 0 (by simp)
    simp only [len_kv, len_isl, bind_ok, bin_neq, hb, decide_eq_true h, Bool.not_true, cond_ff, Bool.true_and]
    simpa using this
  · simp [hb, h]

theorem pE {l : List Nd} : Pred m (fun _ => True) (.fn (.func 47) [] []) isE l := .of fun n _ H => s_expression n H
theorem pP {l : List Nd} : Pred m (fun _ => True) (.fn (.func 69) [] []) isP l := .of fun n _ H => s_place n H
theorem pS {l : List Nd} : Pred m (fun _ => True) (.fn (.func 49) [] []) isS l := .of fun n _ H => s_statement n H
theorem pQ {l : List Nd} : Pred m (fun _ => True) (.fn (.func 75) [] []) (fun n => n.kind == 56 || isE n) l := .of fun n _ H => s_perhaps n H
section
variable {l : List Nd} (hl : l.length < 1099511627776) (b : Bool) (H : Heap)
include hl
theorem sh_E : W m 67 [kv b l, .isl 1 [.fn (.func 47) [] []]] H = .ok (.bool (shape l [isE]), H) := s_shape (.cons pE rfl .nil) hl b H
theorem sh_EE : W m 67 [kv b l, .isl 1 [.fn (.func 47) [] [], .fn (.func 47) [] []]] H = .ok (.bool (shape l [isE, isE]), H) := s_shape (.cons pE rfl (.cons pE rfl .nil)) hl b H
theorem sh_EEE : W m 67 [kv b l, .isl 1 [.fn (.func 47) [] [], .fn (.func 47) [] [], .fn (.func 47) [] []]] H = .ok (.bool (shape l [isE, isE, isE]), H) := s_shape (.cons pE rfl (.cons pE rfl (.cons pE rfl .nil))) hl b H
theorem sh_PE : W m 67 [kv b l, .isl 1 [.fn (.func 69) [] [], .fn (.func 47) [] []]] H = .ok (.bool (shape l [isP, isE]), H) := s_shape (.cons pP rfl (.cons pE rfl .nil)) hl b H
theorem sh_TE : W m 67 [kv b l, .isl 1 [.fn (.func 99) [] [.iptr [.int .i64 16]], .fn (.func 47) [] []]] H = .ok (.bool (shape l [isK 16, isE]), H) := s_shape (.cons (.kind 16 _) rfl (.cons pE rfl .nil)) hl b H
theorem sh_T : W m 67 [kv b l, .isl 1 [.fn (.func 99) [] [.iptr [.int .i64 16]]]] H = .ok (.bool (shape l [isK 16]), H) := s_shape (.cons (.kind 16 _) rfl .nil) hl b H
theorem sh_1 : W m 67 [kv b l, .isl 1 [.fn (.func 71) [] []]] H = .ok (.bool (shape l [fun k => k.kind == 16 || isE k]), H) := s_shape (.cons (.of fun n _ H => s_expr1 n H) rfl .nil) hl b H
theorem sh_ES : W m 67 [kv b l, .isl 1 [.fn (.func 47) [] [], .fn (.func 49) [] []]] H = .ok (.bool (shape l [isE, isS]), H) := s_shape (.cons pE rfl (.cons pS rfl .nil)) hl b H
theorem sh_ESS : W m 67 [kv b l, .isl 1 [.fn (.func 47) [] [], .fn (.func 49) [] [], .fn (.func 49) [] []]] H = .ok (.bool (shape l [isE, isS, isS]), H) := s_shape (.cons pE rfl (.cons pS rfl (.cons pS rfl .nil))) hl b H
theorem sh_SE : W m 67 [kv b l, .isl 1 [.fn (.func 49) [] [], .fn (.func 47) [] []]] H = .ok (.bool (shape l [isS, isE]), H) := s_shape (.cons pS rfl (.cons pE rfl .nil)) hl b H
theorem sh_QQQS : W m 67 [kv b l, .isl 1 [.fn (.func 75) [] [], .fn (.func 75) [] [], .fn (.func 75) [] [], .fn (.func 49) [] []]] H = .ok (.bool (shape l [fun n => n.kind == 56 || isE n, fun n => n.kind == 56 || isE n, fun n => n.kind == 56 || isE n, isS]), H) := s_shape (.cons pQ rfl (.cons pQ rfl (.cons pQ rfl (.cons pS rfl .nil)))) hl b H
theorem ev_E : W m 29 [kv b l, .fn (.func 47) [] []] H = .ok (.bool (l.all isE), H) := s_every pE hl b H rfl rfl
theorem ev_K (k : Int) : W m 29 [kv b l, .fn (.func 99) [] [.iptr [.int .i64 k]]] H = .ok (.bool (l.all (isK k)), H) := s_every (.kind k l) hl b H rfl rfl
theorem ev_S1 : W m 29 [kv b l, .fn (.func 73) [] []] H = .ok (.bool (l.all fun n => isS n || n.kind == 42), H) := s_every (.of fun n _ H => s_stat1 n H) hl b H rfl rfl
theorem ev_D1 : W m 29 [kv b l, .fn (.func 76) [] []] H = .ok (.bool (l.all fun n => n.kind == 41 || n.kind == 42 || n.kind == 45), H) := s_every (.of fun n _ H => s_decl1 n H) hl b H rfl rfl
theorem ev_B1 : W m 29 [kv b l, .fn (.func 101) [] []] H = .ok (.bool (l.all bareV), H) := s_every (.of fun n _ H => s_bare1 n H) hl b H rfl rfl
end
/-- The words of operators. -/
def unS : List UInt8 := [45, 32, 126, 32, 33, 32, 38]
def binS : List UInt8 := [42, 32, 47, 32, 37, 32, 43, 32, 45, 32, 60, 60, 32, 62, 62, 32, 60, 32, 62, 32, 60, 61, 32, 62, 61, 32, 61, 61, 32, 33, 61, 32, 38, 32, 94, 32, 124]
def logS : List UInt8 := [38, 38, 32, 124, 124]
def asgS : List UInt8 := [61, 32, 43, 61, 32, 45, 61, 32, 42, 61, 32, 47, 61, 32, 37, 61, 32, 38, 61, 32, 124, 61, 32, 94, 61, 32, 60, 60, 61, 32, 62, 62, 61]
/-- May an expression or a type be, but for Flag and for its kids' kids? -/
def exprsP (n : Nd) : Bool :=
  if n.kind = 1 then (n.str == []) && (decide (n.num < 2147483648) || n.flag) && n.kids.isEmpty
  else if n.kind = 2 then (n.str == []) && decide (n.num < 256) && n.kids.isEmpty
  else if n.kind = 3 then n.num == 0 && n.kids.isEmpty
  else if n.kind = 4 then n.num == 0 && name n.str && n.kids.isEmpty
  else if n.kind = 5 then (n.str == []) && n.num == 0 && shape n.kids [isE, isE]
  else if n.kind = 6 ∨ n.kind = 7 then n.num == 0 && name n.str && shape n.kids [isE]
  else if n.kind = 8 then n.num == 0 && (name n.str || n.str == [103, 101, 116, 98, 121, 116, 101] || n.str == [112, 117, 116, 98, 121, 116, 101]) && n.kids.all isE
  else if n.kind = 9 then n.num == 0 && one unS n.str && shape n.kids [isE]
  else if n.kind = 10 then n.num == 0 && one binS n.str && shape n.kids [isE, isE]
  else if n.kind = 11 then n.num == 0 && one logS n.str && shape n.kids [isE, isE]
  else if n.kind = 12 then (n.str == []) && n.num == 0 && shape n.kids [isE, isE, isE]
  else if n.kind = 13 then n.num == 0 && one asgS n.str && shape n.kids [isP, isE]
  else if n.kind = 14 then (n.str == []) && n.num == 0 && shape n.kids [isK 16, isE]
  else if n.kind = 15 then (n.str == []) && n.num == 0 && shape n.kids [fun k => k.kind == 16 || isE k]
  else n.kind == 16 && n.num == 0 && typed n.str && n.kids.isEmpty
/-- Small enough. -/
structure Fit (n : Nd) : Prop where
  s : n.str.length < 1073741824
  k : n.kids.length < 1099511627776
theorem s_expressions {n : Nd} (hn : Fit n) (H : Heap) : W m 48 [n.av] H = .ok (.bool (exprsP n), H) := by
  have a1 := fun H => s_name (m := m) (s := n.str) (by have := hn.s; omega) H
  have a2 := fun H => s_one (m := m) (l := [45, 32, 126, 32, 33, 32, 38]) (w := n.str) (by decide) hn.s H
  have a3 := fun H => s_one (m := m) (l := [42, 32, 47, 32, 37, 32, 43, 32, 45, 32, 60, 60, 32, 62, 62, 32, 60, 32, 62, 32, 60, 61, 32, 62, 61, 32, 61, 61, 32, 33, 61, 32, 38, 32, 94, 32, 124]) (w := n.str) (by decide) hn.s H
  have a4 := fun H => s_one (m := m) (l := [38, 38, 32, 124, 124]) (w := n.str) (by decide) hn.s H
  have a5 := fun H => s_one (m := m) (l := [61, 32, 43, 61, 32, 45, 61, 32, 42, 61, 32, 47, 61, 32, 37, 61, 32, 38, 61, 32, 124, 61, 32, 94, 61, 32, 60, 60, 61, 32, 62, 62, 61]) (w := n.str) (by decide) hn.s H
  have a6 := fun H => s_typed (m := m) (s := n.str) hn.s H
  have hk := hn.k
  rw [n.av_eq]
  refine c48 rfl n.kind n.str n.num n.flag _ n.pos H ?_
  unfold g48 exprsP jn
  simp only [fold_cs]
  have hor : n.kind = 1 ∨ n.kind = 2 ∨ n.kind = 3 ∨ n.kind = 4 ∨ n.kind = 5 ∨ n.kind = 6 ∨ n.kind = 7 ∨ n.kind = 8 ∨ n.kind = 9 ∨ n.kind = 10 ∨ n.kind = 11 ∨ n.kind = 12 ∨ n.kind = 13 ∨ n.kind = 14 ∨ n.kind = 15 ∨ (n.kind ≠ 1 ∧ n.kind ≠ 2 ∧ n.kind ≠ 3 ∧ n.kind ≠ 4 ∧ n.kind ≠ 5 ∧ n.kind ≠ 6 ∧ n.kind ≠ 7 ∧ n.kind ≠ 8 ∧ n.kind ≠ 9 ∧ n.kind ≠ 10 ∧ n.kind ≠ 11 ∧ n.kind ≠ 12 ∧ n.kind ≠ 13 ∧ n.kind ≠ 14 ∧ n.kind ≠ 15) := by omega
  rcases hor with h | h | h | h | h | h | h | h | h | h | h | h | h | h | h | ⟨h1, h2, h3, h4, h5, h6, h7, h8, h9, h10, h11, h12, h13, h14, h15⟩
  rotate_right
  · simp only [beq_eq_false_iff_ne.2 h1, beq_eq_false_iff_ne.2 h2, beq_eq_false_iff_ne.2 h3, beq_eq_false_iff_ne.2 h4, beq_eq_false_iff_ne.2 h5, beq_eq_false_iff_ne.2 h6, beq_eq_false_iff_ne.2 h7, beq_eq_false_iff_ne.2 h8, beq_eq_false_iff_ne.2 h9, beq_eq_false_iff_ne.2 h10, beq_eq_false_iff_ne.2 h11, beq_eq_false_iff_ne.2 h12, beq_eq_false_iff_ne.2 h13, beq_eq_false_iff_ne.2 h14, beq_eq_false_iff_ne.2 h15, cond_tt, cond_ff, bind_ok, List.getD_cons_zero, List.getD_cons_succ, bin_eql, Locs.find, Nat.reduceBEq, if_true, onO_some, ldc_cs0]
    simp +contextual -implicitDefEqProofs [guard_t', guard_f', cond_b', ite_ok, ite_pair, pick_and, pick_or, guard_it, guard_if, guard_et, guard_ef, h1, h2, h3, h4, h5, h6, h7, h8, h9, h10, h11, h12, h13, h14, h15, Locs.find, ← beq_len0, a1, a2, a3, a4, a5, a6, sh_E hk, sh_EE hk, sh_EEE hk, sh_PE hk, sh_TE hk, sh_1 hk, ev_E hk, unS, binS, logS, asgS, isK_of, M.fill, M.stc, M.over, chunks, AV.one, AV.cells]
  all_goals simp only [h, beq_self_eq_true, Int.reduceBEq, cond_tt, cond_ff, bind_ok, List.getD_cons_zero, List.getD_cons_succ, bin_eql, Locs.find, Nat.reduceBEq, if_true, onO_some, ldc_cs0]
  all_goals simp +contextual -implicitDefEqProofs [guard_t', guard_f', cond_b', ite_ok, ite_pair, pick_and, pick_or, guard_it, guard_if, guard_et, guard_ef, h, Locs.find, ← beq_len0, a1, a2, a3, a4, a5, a6, sh_E hk, sh_EE hk, sh_EEE hk, sh_PE hk, sh_TE hk, sh_1 hk, ev_E hk, unS, binS, logS, asgS, isK_of, M.fill, M.stc, M.over, chunks, AV.one, AV.cells]
end Go.Proofs.YtnhblghplohonaaGreatDoor.Ab
/- Walks: what may be; how many nodes there are; Check. -/
namespace Go.Proofs.YtnhblghplohonaaGreatDoor.Ab
open Go
variable {m : Int}

mutual
def openP : Nd → Bool
  | .mk k _ _ _ _ l _ => if k = 49 then (if l.length = 2 then true else lastOpen l) else if k = 50 ∨ k = 52 then lastOpen l else false
def lastOpen : List Nd → Bool
  | [] => false
  | x :: r => if r.isEmpty then openP x else lastOpen r
end
theorem openP_eq (n : Nd) : openP n = if n.kind = 49 then (if n.kids.length = 2 then true else lastOpen n.kids) else if n.kind = 50 ∨ n.kind = 52 then lastOpen n.kids else false := by
  cases n; unfold openP; rfl
theorem lastOpen_last : ∀ (l : List Nd) (h : 0 < l.length), lastOpen l = openP (l[l.length - 1]'(by omega))
  | [x], _ => rfl
  | x :: y :: r, _ => by
    rw [lastOpen, if_neg (by simp), lastOpen_last (y :: r) (by simp)]
    simp
/-- Small enough, and so are all nodes in it. -/
structure FitD (n : Nd) : Prop where
  h : ∀ P : Nd → Prop, (∀ x, P x → Fit x ∧ ∀ y ∈ x.kids, P y) → True
mutual
def Nd.sz : Nd → Nat
  | .mk _ s _ _ _ l _ => s.length + Nd.szs l + 1
def Nd.szs : List Nd → Nat
  | [] => 0
  | x :: r => x.sz + Nd.szs r
end
theorem Nd.sz_eq (n : Nd) : n.sz = n.str.length + Nd.szs n.kids + 1 := by cases n; rfl
theorem Nd.sz_pos (n : Nd) : 0 < n.sz := by rw [n.sz_eq]; omega
theorem Nd.szs_mem : ∀ {l : List Nd} {x : Nd}, x ∈ l → x.sz ≤ Nd.szs l
  | y :: r, x, h => by
    rw [Nd.szs]
    rcases List.mem_cons.mp h with rfl | h
    · omega
    · have := Nd.szs_mem h; omega
theorem Nd.szs_length : ∀ l : List Nd, l.length ≤ Nd.szs l
  | [] => by simp [Nd.szs]
  | x :: r => by rw [Nd.szs, List.length_cons]; have := Nd.szs_length r; have := x.sz_pos; omega
theorem Nd.sz_kid {n x : Nd} (h : x ∈ n.kids) : x.sz < n.sz := by rw [n.sz_eq]; have := Nd.szs_mem h; omega
theorem fit_of {n : Nd} (h : n.sz < 1073741824) : Fit n := by
  rw [n.sz_eq] at h
  have := Nd.szs_length n.kids
  exact ⟨by omega, by omega⟩

@[simp] theorem locs_put (L : Locs) (j : Nat) (y : List AV) : Locs.find (Locs.put L j y) j = some y := by
  induction L with
  | nil => simp [Locs.put, Locs.find]
  | cons p L ih =>
    obtain ⟨i, x⟩ := p
    by_cases h : i = j
    · simp [Locs.put, Locs.find, h]
    · have hb : (i == j) = false := by simpa using h
      simp only [Locs.put, hb, Bool.false_eq_true, if_false, Locs.find]
      exact ih
theorem s_open : ∀ (n : Nd), n.sz < 1073741824 → ∀ H, W m 74 [n.av] H = .ok (.bool (openP n), H) := by
  refine Nd.ind fun n ih hs H => ?_
  have hn := fit_of hs
  have e : ∀ K : Ans, ∀ (h : 0 < n.kids.length), True := fun _ _ => trivial
  rw [openP_eq]
  have hlast : ∀ h : 0 < n.kids.length, ∀ H, W m 74 [(n.kids[n.kids.length - 1]'(by omega)).av] H = .ok (.bool (lastOpen n.kids), H) := fun h H => by
    rw [lastOpen_last _ h]
    exact ih _ (List.getElem_mem _) (by have := Nd.sz_kid (n := n) (List.getElem_mem (show n.kids.length - 1 < n.kids.length by omega)); omega) H
  rw [n.av_eq]
  refine c74 rfl n.kind n.str n.num n.flag _ n.pos H ?_
  unfold g74 jn
  simp only [fold_cs]
  have hk := hn.k
  have w1 : ∀ h : 0 < n.kids.length, IntKind.wrap .i64 ((n.kids.length : Int) - 1) = ((n.kids.length - 1 : Nat) : Int) := fun h => by rw [wrap_i64 (by omega) (by omega)]; omega
  have hb2 : ((n.kids.length : Int) == 2) = decide (n.kids.length = 2) := by rw [Bool.eq_iff_iff]; simp; omega
  have i1 : ∀ h : 0 < n.kids.length, M.indexSl 6 (kv n.nil n.kids) (.int .i64 ((n.kids.length - 1 : Nat) : Int)) = .ok (.iptr (n.kids[n.kids.length - 1]'(by omega)).cs) := fun h => index_kvn (by omega)
  have hnil : ¬ 0 < n.kids.length → lastOpen n.kids = false := fun h0 => by
    have : n.kids = [] := by cases hk : n.kids; rfl; rw [hk] at h0; simp at h0
    rw [this]; rfl
  rcases (by omega : n.kind = 49 ∨ n.kind = 50 ∨ n.kind = 52 ∨ (n.kind ≠ 49 ∧ n.kind ≠ 50 ∧ n.kind ≠ 52)) with h | h | h | ⟨h1, h2, h3⟩
  · by_cases h2 : n.kids.length = 2
    · simp [h, hb2, h2]
    · by_cases h0 : 0 < n.kids.length
      · simp [h, hb2, h2, h0, Locs.find, w1 h0, i1 h0, hlast h0]
      · simp [h, hb2, h2, h0, Locs.find, hnil h0]
  · by_cases h0 : 0 < n.kids.length
    · simp [h, h0, Locs.find, w1 h0, i1 h0, hlast h0]
    · simp [h, h0, Locs.find, hnil h0]
  · by_cases h0 : 0 < n.kids.length
    · simp [h, h0, Locs.find, w1 h0, i1 h0, hlast h0]
    · simp [h, h0, Locs.find, hnil h0]
  · simp [h1, h2, h3, beq_eq_false_iff_ne.2 h1, beq_eq_false_iff_ne.2 h2, beq_eq_false_iff_ne.2 h3]
end Go.Proofs.YtnhblghplohonaaGreatDoor.Ab
/- Walks: statements, declarations, Check. -/
namespace Go.Proofs.YtnhblghplohonaaGreatDoor.Ab
open Go
variable {m : Int}

def isQ (n : Nd) : Bool := n.kind == 56 || isE n
def statsP (n : Nd) : Bool :=
  (n.str == []) && n.num == 0 &&
  (if n.kind = 47 then n.kids.all fun k => isS k || k.kind == 42
  else if n.kind = 48 then shape n.kids [isE]
  else if n.kind = 49 then shape n.kids [isE, isS] || (shape n.kids [isE, isS, isS] && !(openP (n.kids[1]?.getD n)))
  else if n.kind = 50 then shape n.kids [isE, isS]
  else if n.kind = 51 then shape n.kids [isS, isE]
  else if n.kind = 52 then shape n.kids [isQ, isQ, isQ, isS]
  else if n.kind = 55 then decide ((n.kids.length : Int) ≤ 1) && n.kids.all isE
  else n.kids.isEmpty)
theorem s_statements {n : Nd} (hs : n.sz < 1073741824) (H : Heap) : W m 50 [n.av] H = .ok (.bool (statsP n), H) := by
  have hn := fit_of hs
  have hk := hn.k
  rw [n.av_eq]
  refine c50 rfl n.kind n.str n.num n.flag _ n.pos H ?_
  unfold g50 statsP
  have hq : (fun n : Nd => n.kind == 56 || isE n) = isQ := rfl
  have h1 : shape n.kids [isE, isS, isS] = true → M.indexSl 6 (kv n.nil n.kids) (.int .i64 1) = .ok (.iptr (n.kids[1]?.getD n).cs) ∧ ∀ H, W m 74 [(n.kids[1]?.getD n).av] H = .ok (.bool (openP (n.kids[1]?.getD n)), H) := fun h => by
    unfold shape at h
    have hl : n.kids.length = 3 := by simp at h; exact h.1
    have h1 : n.kids[1]? = some (n.kids[1]?.getD n) := by rw [List.getElem?_eq_getElem (by omega)]; rfl
    exact ⟨index_kv (by decide) h1, fun H => s_open _ (by have := Nd.sz_kid (List.mem_of_getElem? h1); omega) H⟩
  cases h0 : ((n.str == []) && n.num == 0) with
  | false =>
    rw [Bool.false_and]
    cases ha : (n.str == []) with
    | false => simp [beq_eq_false_iff_ne.1 ha]
    | true =>
      rw [ha, Bool.true_and] at h0
      have ha' : n.str = [] := by simpa using ha
      simp [ha', h0, show (n.num != 0) = true by simp [bne, h0]]
  | true =>
    simp only [Bool.and_eq_true, beq_iff_eq] at h0
    obtain ⟨ha, hb⟩ := h0
    rw [Bool.true_and]
    rcases (by omega : n.kind = 47 ∨ n.kind = 48 ∨ n.kind = 49 ∨ n.kind = 50 ∨ n.kind = 51 ∨ n.kind = 52 ∨ n.kind = 55 ∨ (n.kind ≠ 47 ∧ n.kind ≠ 48 ∧ n.kind ≠ 49 ∧ n.kind ≠ 50 ∧ n.kind ≠ 51 ∧ n.kind ≠ 52 ∧ n.kind ≠ 55)) with h | h | h | h | h | h | h | ⟨k1, k2, k3, k4, k5, k6, k7⟩
    rotate_right
    · simp only [beq_eq_false_iff_ne.2 k1, beq_eq_false_iff_ne.2 k2, beq_eq_false_iff_ne.2 k3, beq_eq_false_iff_ne.2 k4, beq_eq_false_iff_ne.2 k5, beq_eq_false_iff_ne.2 k6, beq_eq_false_iff_ne.2 k7, if_neg k1, if_neg k2, if_neg k3, if_neg k4, if_neg k5, if_neg k6, if_neg k7, cond_tt, cond_ff, bind_ok, List.getD_cons_zero, List.getD_cons_succ, bin_eql, Locs.find, Nat.reduceBEq, if_true, onO_some, ldc_cs0]
      simp +contextual -implicitDefEqProofs [guard_t', guard_f', cond_b', ite_ok, ite_pair, pick_and, pick_or, guard_it, guard_if, guard_et, guard_ef, ha, hb, Locs.find, ← beq_len0]
    all_goals simp only [h, beq_self_eq_true, Int.reduceBEq, cond_tt, cond_ff, bind_ok, List.getD_cons_zero, List.getD_cons_succ, bin_eql, Locs.find, Nat.reduceBEq, if_true, onO_some, ldc_cs0]
    case inr.inr.inl =>
      cases hx : shape n.kids [isE, isS, isS] with
      | false => simp +contextual -implicitDefEqProofs [guard_t', guard_f', cond_b', ite_ok, ite_pair, pick_and, pick_or, guard_it, guard_if, guard_et, guard_ef, ha, hb, Locs.find, sh_ES hk, sh_ESS hk, hx]
      | true =>
        obtain ⟨e1, e2⟩ := h1 hx
        simp +contextual -implicitDefEqProofs [guard_t', guard_f', cond_b', ite_ok, ite_pair, pick_and, pick_or, guard_it, guard_if, guard_et, guard_ef, ha, hb, Locs.find, sh_ES hk, sh_ESS hk, hx, e1, e2]
    all_goals simp +contextual -implicitDefEqProofs [guard_t', guard_f', cond_b', ite_ok, ite_pair, pick_and, pick_or, guard_it, guard_if, guard_et, guard_ef, ha, hb, Locs.find, sh_E hk, sh_ES hk, sh_SE hk, sh_QQQS hk, ev_S1 hk, ev_E hk, hq]
theorem s_bare {n : Nd} (hs : n.sz < 1073741824) (H : Heap) : W m 77 [n.av] H = .ok (.bool (n.kind == 42 && n.kids.all bareV), H) := by
  have hk := (fit_of hs).k
  rw [n.av_eq]
  refine c77 rfl n.kind n.str n.num n.flag _ n.pos H ?_
  unfold g77
  simp +contextual -implicitDefEqProofs [guard_t', guard_f', cond_b', ite_ok, ite_pair, pick_and, pick_or, guard_it, guard_if, guard_et, guard_ef, ev_B1 hk]
/-- May a variable's kids be? -/
def varK (f : Bool) : List Nd → Bool
  | [] => true
  | [x] => isE x || (f && x.kind == 44)
  | _ => false
def varP (n : Nd) : Bool := if n.flag then (match n.kids with | [] => false | x :: r => isQ x && varK true r) else varK false n.kids
theorem s_variable (n : Nd) (hk : n.kids.length < 1099511627776) (H : Heap) : W m 78 [n.av] H = .ok (.bool (varP n), H) := by
  rw [n.av_eq]
  refine c78 rfl n.kind n.str n.num n.flag _ n.pos H ?_
  unfold g78 varP jn
  simp only [fold_cs]
  cases hf : n.flag with
  | false =>
    simp only [cond_ff, Bool.false_eq_true, if_false]
    match hl : n.kids with
    | [] => simp -implicitDefEqProofs [varK, Locs.find]
    | [x] => simp +contextual -implicitDefEqProofs [guard_t', guard_f', cond_b', ite_ok, ite_pair, pick_and, pick_or, guard_it, guard_if, guard_et, guard_ef, varK, Locs.find, s_expression, hf]
    | x :: y :: r => 
      have h1 : ((r.length : Int) + 1 + 1 == 0) = false := beq_eq_false_iff_ne.2 (by omega)
      have h2 : ((r.length : Int) + 1 + 1 == 1) = false := beq_eq_false_iff_ne.2 (by omega)
      simp -implicitDefEqProofs [varK, Locs.find, h1, h2]
  | true =>
    simp only [cond_tt, if_true]
    match hl : n.kids with
    | [] => simp
    | [x] =>
      obtain ⟨b', hb⟩ := slice_kv_1 n.nil x []
      cases hq : isQ x <;> simp -implicitDefEqProofs [hb, varK, Locs.find, s_perhaps, show (x.kind == 56 || isE x) = isQ x from rfl, hq]
    | [x, y] =>
      obtain ⟨b', hb⟩ := slice_kv_1 n.nil x [y]
      cases hq : isQ x <;> cases he : isE y <;> simp -implicitDefEqProofs [hb, varK, Locs.find, s_perhaps, show (x.kind == 56 || isE x) = isQ x from rfl, hq, s_expression, he, hf]
    | x :: y :: z :: r =>
      obtain ⟨b', hb⟩ := slice_kv_1 n.nil x (y :: z :: r)
      have h0 : ((r.length : Int) + 1 + 1 + 1 == 0) = false := beq_eq_false_iff_ne.2 (by omega)
      have h1 : ((r.length : Int) + 1 + 1 == 0) = false := beq_eq_false_iff_ne.2 (by omega)
      have h2 : ((r.length : Int) + 1 + 1 == 1) = false := beq_eq_false_iff_ne.2 (by omega)
      cases hq : isQ x <;> simp -implicitDefEqProofs [hb, varK, Locs.find, s_perhaps, show (x.kind == 56 || isE x) = isQ x from rfl, hq, h0, h1, h2]
end Go.Proofs.YtnhblghplohonaaGreatDoor.Ab
/- Walks: declarations, what may be, Check. -/
namespace Go.Proofs.YtnhblghplohonaaGreatDoor.Ab
open Go
variable {m : Int}

/-- May a function's kids be? -/
def funK (l : List Nd) : Bool := match l with
  | x :: y :: r => x.kind == 16 && (match (y :: r)[r.length]? with | some z => z.kind == 47 | none => false) && ((y :: r).take r.length).all (isK 46)
  | _ => false
theorem s_function (b : Bool) (l : List Nd) (hk : l.length < 1099511627776) (H : Heap) : W m 79 [kv b l] H = .ok (.bool (funK l), H) := by
  refine c79 rfl _ H ?_
  unfold g79
  match l with
  | [] => simp -implicitDefEqProofs [funK, wrap_i64 (x := -1) (by omega) (by omega)]
  | [x] => simp -implicitDefEqProofs [funK, wrap_i64 (x := 0) (by omega) (by omega)]
  | x :: y :: r =>
    have hk' : r.length + 2 < 1099511627776 := hk
    have w1 : IntKind.wrap .i64 ((r.length : Int) + 1) = (r.length : Int) + 1 := wrap_i64 (by omega) (by omega)
    have hge : decide ((1 : Int) ≤ (r.length : Int) + 1) = true := decide_eq_true (by omega)
    have hz : (y :: r)[r.length]? = some ((y :: r)[r.length]'(by simp)) := List.getElem?_eq_getElem _
    have i1 : M.indexSl 6 (kv b (x :: y :: r)) (.int .i64 ((r.length : Int) + 1)) = .ok (.iptr ((y :: r)[r.length]'(by simp)).cs) := by
      refine index_kv (by omega) ?_
      rw [show ((r.length : Int) + 1).toNat = r.length + 1 by omega, List.getElem?_cons_succ]; exact hz
    obtain ⟨b', hb⟩ := slice_kv (b := b) (l := x :: y :: r) (i := 1) (j := r.length + 1) (by omega) (by simp)
    have hb : M.sliceSl 6 (kv b (x :: y :: r)) (some (.int .i64 1)) (some (.int .i64 ((r.length : Int) + 1))) = .ok (kv b' ((y :: r).take r.length)) := hb
    have hev := fun H => ev_K (m := m) (l := (y :: r).take r.length) (by simp; omega) b' H 46
    simp +contextual -implicitDefEqProofs [guard_t', guard_f', cond_b', ite_ok, ite_pair, pick_and, pick_or, guard_it, guard_if, guard_et, guard_ef, funK, w1, hge, i1, hb, hz, isK_of, hev]
    try simp only [Bool.and_assoc]
def declsP (n : Nd) : Bool :=
  if n.kind = 40 then (n.str == []) && n.num == 0 && n.kids.all fun k => k.kind == 41 || k.kind == 42 || k.kind == 45
  else if n.kind = 41 then name n.str && n.num == 0 && n.kids.all fun k => k.kind == 42 && k.kids.all bareV
  else if n.kind = 42 then (n.str == []) && n.num == 0 && (match n.kids with | x :: y :: r => x.kind == 16 && (y :: r).all (isK 43) | _ => false)
  else if n.kind = 43 then name n.str && n.num == 0 && varP n
  else if n.kind = 44 then (n.str == []) && n.num == 0 && !(n.kids.isEmpty) && n.kids.all isE
  else if n.kind = 45 then name n.str && n.num == 0 && funK n.kids
  else n.kind == 46 && name n.str && decide (n.num ≤ 1) && !(n.flag && n.num == 1) && shape n.kids [isK 16]
theorem s_declarations {n : Nd} (hs : n.sz < 1073741824) (H : Heap) : W m 51 [n.av] H = .ok (.bool (declsP n), H) := by
  have hn := fit_of hs
  have hk := hn.k
  have a1 := fun H => s_name (m := m) (s := n.str) (by have := hn.s; omega) H
  have a2 := fun H => s_variable (m := m) n hk H
  have a3 := fun H => s_function (m := m) n.nil n.kids hk H
  have a4 := fun H => s_every (m := m) (f := .fn (.func 77) [] []) (p := fun k => k.kind == 42 && k.kids.all bareV) (l := n.kids) (.of fun x hx H => s_bare (by have := Nd.sz_kid hx; omega) H) hk n.nil H rfl rfl
  rw [n.av_eq]
  refine c51 rfl n.kind n.str n.num n.flag _ n.pos H ?_
  unfold g51 declsP
  rcases (by omega : n.kind = 40 ∨ n.kind = 41 ∨ n.kind = 42 ∨ n.kind = 43 ∨ n.kind = 44 ∨ n.kind = 45 ∨ (n.kind ≠ 40 ∧ n.kind ≠ 41 ∧ n.kind ≠ 42 ∧ n.kind ≠ 43 ∧ n.kind ≠ 44 ∧ n.kind ≠ 45)) with h | h | h | h | h | h | ⟨k1, k2, k3, k4, k5, k6⟩
  rotate_right
  · simp only [beq_eq_false_iff_ne.2 k1, beq_eq_false_iff_ne.2 k2, beq_eq_false_iff_ne.2 k3, beq_eq_false_iff_ne.2 k4, beq_eq_false_iff_ne.2 k5, beq_eq_false_iff_ne.2 k6, if_neg k1, if_neg k2, if_neg k3, if_neg k4, if_neg k5, if_neg k6, cond_tt, cond_ff, a1, bind_ok]
    simp +contextual -implicitDefEqProofs [guard_t', guard_f', cond_b', ite_ok, ite_pair, pick_and, pick_or, guard_it, guard_if, guard_et, guard_ef, ← beq_len0, sh_T hk, isK_of, M.fill, M.stc, M.over, chunks, AV.one, AV.cells]
  all_goals simp only [h, beq_self_eq_true, Int.reduceBEq, cond_tt, cond_ff, a1, bind_ok]
  case inr.inr.inl =>
    match hl : n.kids with
    | [] => simp +contextual -implicitDefEqProofs [guard_t', guard_f', cond_b', ite_ok, ite_pair, pick_and, pick_or, guard_it, guard_if, guard_et, guard_ef, hl]
    | [x] => simp +contextual -implicitDefEqProofs [guard_t', guard_f', cond_b', ite_ok, ite_pair, pick_and, pick_or, guard_it, guard_if, guard_et, guard_ef, hl]
    | x :: y :: r =>
      have h2 : decide ((2 : Int) ≤ (r.length : Int) + 1 + 1) = true := decide_eq_true (by omega)
      obtain ⟨b', hb⟩ := slice_kv_1 n.nil x (y :: r)
      have hev := fun H => ev_K (m := m) (l := y :: r) (by rw [hl] at hk; simp at hk ⊢; omega) b' H 43
      simp +contextual -implicitDefEqProofs [guard_t', guard_f', cond_b', ite_ok, ite_pair, pick_and, pick_or, guard_it, guard_if, guard_et, guard_ef, h2, hb, hev, isK_of]
      simp only [Bool.and_assoc]
  case inr.inr.inr.inr.inl =>
    cases hl : n.kids with
    | nil => simp +contextual -implicitDefEqProofs [guard_t', guard_f', cond_b', ite_ok, ite_pair, pick_and, pick_or, guard_it, guard_if, guard_et, guard_ef, hl]
    | cons x r =>
      have hev := fun H => ev_E (m := m) (l := x :: r) (by rw [hl] at hk; exact hk) n.nil H
      have h2 : decide ((0 : Int) < (r.length : Int) + 1) = true := decide_eq_true (by omega)
      simp +contextual -implicitDefEqProofs [guard_t', guard_f', cond_b', ite_ok, ite_pair, pick_and, pick_or, guard_it, guard_if, guard_et, guard_ef, h2, hev]
  case inr.inr.inr.inl =>
    have hf : AV.agg [.int .i64 43, .str n.str, .int .u32 n.num, .bool n.flag, kv n.nil n.kids, .int .i64 n.pos] = n.av := by rw [n.av_eq, h]
    simp +contextual -implicitDefEqProofs [guard_t', guard_f', cond_b', ite_ok, ite_pair, pick_and, pick_or, guard_it, guard_if, guard_et, guard_ef, a2, hf]
  all_goals simp +contextual -implicitDefEqProofs [guard_t', guard_f', cond_b', ite_ok, ite_pair, pick_and, pick_or, guard_it, guard_if, guard_et, guard_ef, a3, a4, ev_D1 hk]
end Go.Proofs.YtnhblghplohonaaGreatDoor.Ab
