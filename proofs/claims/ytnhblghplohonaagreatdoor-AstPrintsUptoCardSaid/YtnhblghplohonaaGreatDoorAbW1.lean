/- Walks: operators' levels. -/
import Derived.Test.YtnhblghplohonaaGreatDoorAbR
set_option linter.unusedSimpArgs false
set_option linter.unusedVariables false
namespace Go.Proofs.YtnhblghplohonaaGreatDoor.Ab
open Go
variable {m : Int}

def opsL : List (List UInt8) := [[124, 124], [38, 38], [124], [94], [38], [61, 61, 32, 33, 61], [60, 32, 62, 32, 60, 61, 32, 62, 61], [60, 60, 32, 62, 62], [43, 32, 45], [42, 32, 47, 32, 37]]
def opFrom : Nat → List (List UInt8) → List UInt8 → Int
  | _, [], _ => 0
  | i, l :: r, s => if one l s then (i : Int) + 2 else opFrom (i + 1) r s
theorem op_loop (s : List UInt8) (hs : s.length < 1073741824) (H : Heap) : ∀ k i, i + k = 10 →
    loopW (g102_l2 (W m) loopW H) ([.str s, .isl 1 (opsL.map .str), .int .i64 10, .int .i64 (i : Nat)], [], H.start) = .ok (.int .i64 (opFrom i (opsL.drop i) s), H) := by
  intro k
  induction k with
  | zero =>
    intro i h
    refine loopW_done fun k => ?_
    unfold g102_l2
    rw [List.drop_eq_nil_of_le (show opsL.length ≤ i by show 10 ≤ i; omega), opFrom]
    have h1 : decide ((i : Int) < 10) = false := decide_eq_false (by omega)
    simp -implicitDefEqProofs only [List.getD_cons_zero, List.getD_cons_succ, bin_lss, bind_ok, h1, cond_ff, gc_int]
  | succ k ih =>
    intro i h
    have hi : i < opsL.length := by show i < 10; omega
    have h1 : decide ((i : Int) < 10) = true := decide_eq_true (by omega)
    have e0 : M.indexSl 1 (.isl 1 (opsL.map .str)) (.int .i64 (i : Int)) = .ok (.iptr [.str opsL[i]]) := by
      simp [M.indexSl, List.getElem?_eq_getElem hi, AV.cells]
    have hlen : opsL[i].length < 1073741824 := by
      have : ∀ x ∈ opsL, x.length < 1073741824 := by decide
      exact this _ (List.getElem_mem hi)
    have ho := fun H => s_one (m := m) hlen hs H
    rw [List.drop_eq_getElem_cons hi, opFrom]
    cases hone : one opsL[i] s with
    | true =>
      rw [if_pos rfl]
      refine loopW_done fun k => ?_
      unfold g102_l2
      simp -implicitDefEqProofs only [List.getD_cons_zero, List.getD_cons_succ, bin_lss, bind_ok, h1, cond_tt, e0, load_one, ho, hone, bin_add, wrap_i64 (x := (i : Int) + 2) (by omega) (by omega), gc_int]
    | false =>
      rw [if_neg (by decide)]
      refine loopW_step (s' := ([.str s, .isl 1 (opsL.map .str), .int .i64 10, .int .i64 ((i + 1 : Nat) : Int)], [], H.start)) (fun k => ?_) (ih (i + 1) (by omega))
      unfold g102_l2
      simp -implicitDefEqProofs only [List.getD_cons_zero, List.getD_cons_succ, bin_lss, bind_ok, h1, cond_tt, e0, load_one, ho, hone, bin_add, cond_ff, wrap_i64 (x := (i : Int) + 1) (by omega) (by omega), Int.natCast_add, Int.natCast_one]
theorem s_op {s : List UInt8} (hs : s.length < 1073741824) (H : Heap) : W m 102 [.str s] H = .ok (.int .i64 (opFrom 0 opsL s), H) := by
  refine c102 rfl _ H ?_
  unfold g102
  exact op_loop s hs H 10 0 rfl
def opTokens : List (List UInt8) := [[42], [47], [37], [43], [45], [60, 60], [62, 62], [60], [62], [60, 61], [62, 61], [61, 61], [33, 61], [38], [94], [124]]
theorem op_tokens {s : List UInt8} (h : one binS s = true ∨ one logS s = true) : s ∈ opTokens ∨ s ∈ [[38, 38], [124, 124]] := by
  rcases h with h | h
  · exact .inl (one_cases h (by decide +kernel))
  · exact .inr (one_cases h (by decide +kernel))
theorem op_level {s : List UInt8} (h : one binS s = true ∨ one logS s = true) : opFrom 0 opsL s = opL s := by
  rcases op_tokens h with h | h
  · have : ∀ s ∈ opTokens, opFrom 0 opsL s = opL s := by decide +kernel
    exact this s h
  · have : ∀ s ∈ [[38, 38], [124, 124]], opFrom 0 opsL s = opL s := by decide +kernel
    exact this s h
theorem s_opR (s : List UInt8) (H : Heap) : W m 93 [.str s] H = .ok (.int .i64 (opL s), H) := by
  refine c93 rfl s H ?_
  unfold g93 opL jn
  by_cases h1 : s = [124, 124]
  · simp -implicitDefEqProofs [h1]
  by_cases h2 : s = [38, 38]
  · simp -implicitDefEqProofs [h2]
  by_cases h3 : s = [124]
  · simp -implicitDefEqProofs [h3]
  by_cases h4 : s = [94]
  · simp -implicitDefEqProofs [h4]
  by_cases h5 : s = [38]
  · simp -implicitDefEqProofs [h5]
  by_cases h6 : s = [61, 61]
  · simp -implicitDefEqProofs [h6]
  by_cases h7 : s = [33, 61]
  · simp -implicitDefEqProofs [h7]
  by_cases h8 : s = [60]
  · simp -implicitDefEqProofs [h8]
  by_cases h9 : s = [62]
  · simp -implicitDefEqProofs [h9]
  by_cases h10 : s = [60, 61]
  · simp -implicitDefEqProofs [h10]
  by_cases h11 : s = [62, 61]
  · simp -implicitDefEqProofs [h11]
  by_cases h12 : s = [60, 60]
  · simp -implicitDefEqProofs [h12]
  by_cases h13 : s = [62, 62]
  · simp -implicitDefEqProofs [h13]
  by_cases h14 : s = [43]
  · simp -implicitDefEqProofs [h14]
  by_cases h15 : s = [45]
  · simp -implicitDefEqProofs [h15]
  have b1 : (s == [124, 124]) = false := by simp [h1]
  have b2 : (s == [38, 38]) = false := by simp [h2]
  have b3 : (s == [124]) = false := by simp [h3]
  have b4 : (s == [94]) = false := by simp [h4]
  have b5 : (s == [38]) = false := by simp [h5]
  have b6 : (s == [61, 61]) = false := by simp [h6]
  have b7 : (s == [33, 61]) = false := by simp [h7]
  have b8 : (s == [60]) = false := by simp [h8]
  have b9 : (s == [62]) = false := by simp [h9]
  have b10 : (s == [60, 61]) = false := by simp [h10]
  have b11 : (s == [62, 61]) = false := by simp [h11]
  have b12 : (s == [60, 60]) = false := by simp [h12]
  have b13 : (s == [62, 62]) = false := by simp [h13]
  have b14 : (s == [43]) = false := by simp [h14]
  have b15 : (s == [45]) = false := by simp [h15]
  simp -implicitDefEqProofs only [b1, b2, b3, b4, b5, b6, b7, b8, b9, b10, b11, b12, b13, b14, b15, h1, h2, h3, h4, h5, h6, h7, h8, h9, h10, h11, h12, h13, h14, h15, cond_ff, List.getD_cons_zero, List.getD_cons_succ, bin_seql, bind_ok, gc_int, or_self, if_false]
/-- A node whose operator has its level. -/
def lvOk (n : Nd) : Prop := n.kind = 10 ∨ n.kind = 11 → one binS n.str = true ∨ one logS n.str = true
theorem s_level {n : Nd} (hs : n.str.length < 1073741824) (hl : lvOk n) (H : Heap) : W m 81 [n.av] H = .ok (.int .i64 (levelN n), H) := by
  have a1 := fun H => s_op (m := m) hs H
  rw [n.av_eq]
  refine c81 rfl n.kind n.str n.num n.flag _ n.pos H ?_
  unfold g81 levelN jn
  simp only [fold_cs]
  rcases (by omega : n.kind = 13 ∨ n.kind = 12 ∨ n.kind = 10 ∨ n.kind = 11 ∨ n.kind = 9 ∨ n.kind = 14 ∨ n.kind = 15 ∨ (n.kind ≠ 13 ∧ n.kind ≠ 12 ∧ n.kind ≠ 10 ∧ n.kind ≠ 11 ∧ n.kind ≠ 9 ∧ n.kind ≠ 14 ∧ n.kind ≠ 15)) with h | h | h | h | h | h | h | ⟨k1, k2, k3, k4, k5, k6, k7⟩
  · simp -implicitDefEqProofs [h]
  · simp -implicitDefEqProofs [h]
  · have := op_level (hl (.inl h))
    simp -implicitDefEqProofs [h, Locs.find, a1, this]
  · have := op_level (hl (.inr h))
    simp -implicitDefEqProofs [h, Locs.find, a1, this]
  · simp -implicitDefEqProofs [h]
  · simp -implicitDefEqProofs [h]
  · simp -implicitDefEqProofs [h]
  · simp -implicitDefEqProofs [k1, k2, k3, k4, k5, k6, k7, beq_eq_false_iff_ne.2 k1, beq_eq_false_iff_ne.2 k2, beq_eq_false_iff_ne.2 k3, beq_eq_false_iff_ne.2 k4, beq_eq_false_iff_ne.2 k5, beq_eq_false_iff_ne.2 k6, beq_eq_false_iff_ne.2 k7]
theorem s_levelR (n : Nd) (H : Heap) : W m 64 [n.av] H = .ok (.int .i64 (levelN n), H) := by
  have a1 := fun H => s_opR (m := m) n.str H
  rw [n.av_eq]
  refine c64 rfl n.kind n.str n.num n.flag _ n.pos H ?_
  unfold g64 levelN jn
  simp only [fold_cs]
  rcases (by omega : n.kind = 13 ∨ n.kind = 12 ∨ n.kind = 10 ∨ n.kind = 11 ∨ n.kind = 9 ∨ n.kind = 14 ∨ n.kind = 15 ∨ (n.kind ≠ 13 ∧ n.kind ≠ 12 ∧ n.kind ≠ 10 ∧ n.kind ≠ 11 ∧ n.kind ≠ 9 ∧ n.kind ≠ 14 ∧ n.kind ≠ 15)) with h | h | h | h | h | h | h | ⟨k1, k2, k3, k4, k5, k6, k7⟩
  · simp -implicitDefEqProofs [h]
  · simp -implicitDefEqProofs [h]
  · simp -implicitDefEqProofs [h, Locs.find, a1]
  · simp -implicitDefEqProofs [h, Locs.find, a1]
  · simp -implicitDefEqProofs [h]
  · simp -implicitDefEqProofs [h]
  · simp -implicitDefEqProofs [h]
  · simp -implicitDefEqProofs [k1, k2, k3, k4, k5, k6, k7, beq_eq_false_iff_ne.2 k1, beq_eq_false_iff_ne.2 k2, beq_eq_false_iff_ne.2 k3, beq_eq_false_iff_ne.2 k4, beq_eq_false_iff_ne.2 k5, beq_eq_false_iff_ne.2 k6, beq_eq_false_iff_ne.2 k7]
theorem okE_lv {n : Nd} (h : okE n = true) : lvOk n := fun hk => okE_op h hk
end Go.Proofs.YtnhblghplohonaaGreatDoor.Ab
