/- Walks: Check, Size. -/
import Derived.Test.YtnhblghplohonaaGreatDoorAbV1
set_option linter.unusedSimpArgs false
set_option linter.unusedVariables false
namespace Go.Proofs.YtnhblghplohonaaGreatDoor.Ab
open Go
variable {m : Int}

def itselfP (n : Nd) : Bool :=
  (!n.flag || n.kind == 1 || n.kind == 43 || n.kind == 46) && (if isE n || n.kind == 16 then exprsP n else if isS n then statsP n else declsP n)
theorem s_itself {n : Nd} (hs : n.sz < 1073741824) (H : Heap) : W m 28 [n.av] H = .ok (.bool (itselfP n), H) := by
  have hn := fit_of hs
  have a1 := fun H => s_expressions (m := m) hn H
  have a2 := fun H => s_statements (m := m) hs H
  have a3 := fun H => s_declarations (m := m) hs H
  rw [n.av_eq]
  refine c28 rfl n.kind n.str n.num n.flag _ n.pos H ?_
  unfold g28 itselfP jn
  simp only [fold_cs]
  cases h1 : (n.kind == 1) <;> cases h2 : (n.kind == 43) <;> cases h3 : (n.kind == 46) <;> cases hf : n.flag <;> simp only [cond_tt, cond_ff, Locs.find, beq_self_eq_true, if_true, onO_some, ldc_cs, ldc_cs0, s_expression, bind_ok, gc_bool, Bool.not_true, Bool.not_false, Bool.false_or, Bool.true_or, Bool.or_true, Bool.true_and, Bool.false_and, Bool.or_false]
  all_goals (cases he : isE n <;> cases h4 : (n.kind == 16) <;> cases hS : isS n <;> simp -implicitDefEqProofs [h4, s_statement, hS, a1, a2, a3])
mutual
def mayP : Nd → Bool
  | .mk k s m f b l p => itselfP (.mk k s m f b l p) && mays l
def mays : List Nd → Bool
  | [] => true
  | x :: r => mayP x && mays r
end
theorem mays_all : ∀ l : List Nd, mays l = l.all mayP
  | [] => rfl
  | x :: r => by rw [mays, mays_all r, List.all_cons]
theorem mayP_eq (n : Nd) : mayP n = (itselfP n && n.kids.all mayP) := by
  cases n; rw [mayP, mays_all]; rfl
theorem s_may : ∀ n : Nd, n.sz < 1073741824 → ∀ H, W m 21 [n.av] H = .ok (.bool (mayP n), H) := by
  refine Nd.ind fun n ih hs H => ?_
  have hk := (fit_of hs).k
  have a1 := fun H => s_itself (m := m) hs H
  have a2 := fun H => s_every (m := m) (f := .fn (.func 21) [] []) (p := mayP) (l := n.kids) (.of fun x hx H => ih x hx (by have := Nd.sz_kid hx; omega) H) hk n.nil H rfl rfl
  rw [mayP_eq, n.av_eq]
  refine c21 rfl n.kind n.str n.num n.flag _ n.pos H ?_
  unfold g21
  simp +contextual -implicitDefEqProofs [guard_t', guard_f', cond_b', ite_ok, ite_pair, pick_and, pick_or, guard_it, guard_if, guard_et, guard_ef, a1, a2]

mutual
/-- How many nodes there are; too many: more than may be. -/
def cnt : Nd → Nat → Nat
  | .mk _ _ _ _ _ l _, a => cnts l (a + 1)
def cnts : List Nd → Nat → Nat
  | [], a => a
  | x :: r, a => if 262144 < a then a else cnts r (cnt x a)
end
theorem cnt_eq (n : Nd) (a : Nat) : cnt n a = cnts n.kids (a + 1) := by cases n; rfl
mutual
theorem cnt_le : ∀ (n : Nd) (a : Nat), a ≤ 262144 → cnt n a ≤ 262145
  | .mk _ _ _ _ _ l _, a, h => by rw [cnt]; exact cnts_le l (a + 1) (by omega)
theorem cnts_le : ∀ (l : List Nd) (a : Nat), a ≤ 262145 → cnts l a ≤ 262145
  | [], a, h => h
  | x :: r, a, h => by
    rw [cnts]
    split
    · exact h
    · exact cnts_le r _ (cnt_le x a (by omega))
end
theorem s_count : ∀ n : Nd, n.kids.length < 1099511627776 → (∀ x ∈ n.kids, x.sz < 1073741824) → ∀ (a : Nat), a ≤ 262144 → ∀ H, W m 20 [n.av, .int .i64 a] H = .ok (.int .i64 (cnt n a), H) := by
  refine Nd.ind fun n ih hk hs a ha H => ?_
  have key : ∀ (j : LS → Out Ans) (_ : ∀ (v : Int) L, j ([.int .i64 v], L, H.start) = .ok (.int .i64 v, H)) (k i : Nat), i + k = n.kids.length → ∀ (a : Nat), a ≤ 262145 → ∀ L,
      loopW (g20_l3 (W m) loopW j) ([.int .i64 a, kv n.nil n.kids, .int .i64 n.kids.length, .int .i64 (i : Nat)], L, H.start) = .ok (.int .i64 (cnts (n.kids.drop i) a), H) := by
    intro j hj k
    induction k with
    | zero =>
      intro i h a ha L
      have h1 : decide ((i : Int) < n.kids.length) = false := decide_eq_false (by omega)
      refine loopW_done fun K => ?_
      unfold g20_l3
      rw [List.drop_eq_nil_of_le (show n.kids.length ≤ i by omega), cnts]
      simp -implicitDefEqProofs only [List.getD_cons_zero, List.getD_cons_succ, bin_lss, bind_ok, h1, cond_ff, hj]
    | succ k ihk =>
      intro i h a ha L
      have hi : i < n.kids.length := by omega
      have h1 : decide ((i : Int) < n.kids.length) = true := decide_eq_true (by omega)
      rw [List.drop_eq_getElem_cons hi, cnts]
      by_cases h2 : 262144 < a
      · have h2' : decide ((a : Int) > 262144) = true := decide_eq_true (by omega)
        rw [if_pos h2]
        refine loopW_done fun K => ?_
        unfold g20_l3
        simp -implicitDefEqProofs only [List.getD_cons_zero, List.getD_cons_succ, bin_lss, bin_gtr, bind_ok, h1, h2', cond_tt, hj, index_kvn hi, load_cs, locs_put, onO_some, stc_av6]
      · have h2' : decide ((a : Int) > 262144) = false := decide_eq_false (by omega)
        rw [if_neg h2]
        have hc := ih n.kids[i] (List.getElem_mem hi) (by have := Nd.szs_length n.kids[i].kids; have h3 := hs _ (List.getElem_mem hi); rw [Nd.sz_eq] at h3; omega) (fun x hx => by have := Nd.sz_kid hx; have h3 := hs _ (List.getElem_mem hi); omega) a (by omega) H.start
        have w1 := wrap_i64 (x := (i : Int) + 1) (by omega) (by omega)
        refine loopW_step (s' := ([.int .i64 (cnt n.kids[i] a : Nat), kv n.nil n.kids, .int .i64 n.kids.length, .int .i64 ((i + 1 : Nat) : Int)], Locs.put (Locs.put L 6 [.int .i64 0, .str [], .int .u32 0, .bool false, nilSlice, .int .i64 0]) 6 n.kids[i].cs, H.start)) (fun K => ?_) (ihk (i + 1) (by omega) _ (cnt_le _ _ (by omega)) _)
        unfold g20_l3
        simp -implicitDefEqProofs only [List.getD_cons_zero, List.getD_cons_succ, bin_lss, bin_gtr, bin_add, bind_ok, h1, h2', cond_tt, cond_ff, index_kvn hi, load_cs, locs_put, onO_some, stc_av6, ldc_cs, hc, w1, Int.natCast_add, Int.natCast_one]
  rw [n.av_eq]
  refine c20 rfl n.kind n.str n.num n.flag _ n.pos _ H ?_
  unfold g20 jn
  have w1 : IntKind.wrap .i64 ((a : Int) + 1) = ((a + 1 : Nat) : Int) := by rw [wrap_i64 (by omega) (by omega)]; omega
  have h3 := key (fun s1 => .ok (gc (s1.1.getD 0 undefA) H s1.2.2)) (fun v L => by
    show Out.ok (gc (.int .i64 v) H H.start) = _
    rw [gc_int]) n.kids.length 0 (by simp) (a + 1) (by omega) [(2, n.cs)]
  rw [List.drop_zero, ← cnt_eq] at h3
  simp -implicitDefEqProofs only [len_kv, bind_ok, w1]
  exact h3
def sizeP (n : Nd) : Nat := if cnt n 0 ≤ 262144 then cnt n 0 else 0
theorem s_size {n : Nd} (hs : n.sz < 1073741824) (H : Heap) : W m 12 [n.av] H = .ok (.int .i64 (sizeP n : Nat), H) := by
  have a1 := fun H => s_count (m := m) n (fit_of hs).k (fun x hx => by have := Nd.sz_kid hx; omega) 0 (by omega) H
  rw [n.av_eq]
  refine c12 rfl n.kind n.str n.num n.flag _ n.pos H ?_
  unfold g12 sizeP
  simp only [Int.natCast_zero] at a1
  by_cases h : cnt n 0 ≤ 262144
  · have h' : (cnt n 0 : Int) ≤ 262144 := by omega
    simp -implicitDefEqProofs [a1, h, h']
  · have h' : ¬ (cnt n 0 : Int) ≤ 262144 := by omega
    simp -implicitDefEqProofs [a1, h, h']
def checkP (n : Nd) : Bool := n.kind == 40 && !(sizeP n == 0) && mayP n
theorem s_check {n : Nd} (hs : n.sz < 1073741824) (H : Heap) : W m 13 [n.av] H = .ok (.int .i64 (if checkP n then 0 else 80), H) := by
  have a1 := fun H => s_size (m := m) hs H
  have a2 := fun H => s_may (m := m) n hs H
  rw [n.av_eq]
  refine c13 rfl n.kind n.str n.num n.flag _ n.pos H ?_
  unfold g13 checkP
  have hb : ((sizeP n : Int) == 0) = (sizeP n == 0) := by rw [Bool.eq_iff_iff]; simp
  have hne : (n.kind != 40) = !(n.kind == 40) := rfl
  cases h1 : (n.kind == 40) <;> cases h2 : (sizeP n == 0) <;> cases h3 : mayP n <;> simp -implicitDefEqProofs [hne, h1, h2, h3, a1, a2, hb]
theorem counted_eq : ∀ n : Nd, n.kids.length < 1099511627776 → (∀ x ∈ n.kids, x.sz < 1073741824) → ∀ (a : Nat), a ≤ 262144 → ∀ H, W m 18 [n.av, .int .i64 a] H = .ok (.int .i64 (cnt n a), H) := by
  refine Nd.ind fun n ih hk hs a ha H => ?_
  have key : ∀ (k i : Nat), i + k = n.kids.length → ∀ (a : Nat), a ≤ 262145 →
      loopW (g18_l3 (W m) loopW H) ([.int .i64 a, .int .i64 (i : Nat)], [(2, n.cs)], H.start) = .ok (.int .i64 (cnts (n.kids.drop i) a), H) := by
    intro k
    induction k with
    | zero =>
      intro i h a ha
      have h1 : decide ((i : Int) < n.kids.length) = false := decide_eq_false (by omega)
      refine loopW_done fun K => ?_
      unfold g18_l3
      rw [List.drop_eq_nil_of_le (show n.kids.length ≤ i by omega), cnts]
      simp -implicitDefEqProofs [show ¬ i < n.kids.length by omega, Locs.find]
    | succ k ihk =>
      intro i h a ha
      have hi : i < n.kids.length := by omega
      have h1 : decide ((i : Int) < n.kids.length) = true := decide_eq_true (by omega)
      rw [List.drop_eq_getElem_cons hi, cnts]
      by_cases h2 : 262144 < a
      · have h2' : ¬ (a : Int) ≤ 262144 := by omega
        rw [if_pos h2]
        refine loopW_done fun K => ?_
        unfold g18_l3
        simp -implicitDefEqProofs [h1, Locs.find, hi, h2']
      · have h2' : (a : Int) ≤ 262144 := by omega
        rw [if_neg h2]
        have hc := ih n.kids[i] (List.getElem_mem hi) (by have := Nd.szs_length n.kids[i].kids; have h3 := hs _ (List.getElem_mem hi); rw [Nd.sz_eq] at h3; omega) (fun x hx => by have := Nd.sz_kid hx; have h3 := hs _ (List.getElem_mem hi); omega) a (by omega) H.start
        have w1 := wrap_i64 (x := (i : Int) + 1) (by omega) (by omega)
        refine loopW_step (s' := ([.int .i64 (cnt n.kids[i] a : Nat), .int .i64 ((i + 1 : Nat) : Int)], [(2, n.cs)], H.start)) (fun K => ?_) (ihk (i + 1) (by omega) _ (cnt_le _ _ (by omega)))
        unfold g18_l3
        simp -implicitDefEqProofs [h1, Locs.find, hi, h2', index_kvn hi, hc, w1]
  rw [n.av_eq]
  refine c18 rfl n.kind n.str n.num n.flag _ n.pos _ H ?_
  unfold g18
  have w1 : IntKind.wrap .i64 ((a : Int) + 1) = ((a + 1 : Nat) : Int) := by rw [wrap_i64 (by omega) (by omega)]; omega
  have h3 := key n.kids.length 0 (by simp) (a + 1) (by omega)
  rw [List.drop_zero, ← cnt_eq] at h3
  simp -implicitDefEqProofs only [w1, fold_cs]
  exact h3
theorem s_size8 {n : Nd} (hs : n.sz < 1073741824) (H : Heap) : W m 8 [n.av] H = .ok (.int .i64 (sizeP n : Nat), H) := by
  have a1 := fun H => counted_eq (m := m) n (fit_of hs).k (fun x hx => by have := Nd.sz_kid hx; omega) 0 (by omega) H
  rw [n.av_eq]
  refine c8 rfl n.kind n.str n.num n.flag _ n.pos H ?_
  unfold g8 sizeP
  simp only [Int.natCast_zero] at a1
  by_cases h : cnt n 0 ≤ 262144
  · have h' : ¬ (262144 < (cnt n 0 : Int)) := by omega
    simp -implicitDefEqProofs [a1, h, h']
  · have h' : 262144 < (cnt n 0 : Int) := by omega
    simp -implicitDefEqProofs [a1, h, h']
end Go.Proofs.YtnhblghplohonaaGreatDoor.Ab
/- Walks: the reference's Check, expressions. -/
namespace Go.Proofs.YtnhblghplohonaaGreatDoor.Ab
open Go
variable {m : Int}

/-- A loop that asks whether all are so. -/
theorem all_loop {α : Type} {B : LS → (LS → Out Ans) → Out Ans} {st : Nat → LS} {l : List α} {p : α → Bool} {H : Heap} (h0 : ∀ k, B (st l.length) k = .ok (.bool true, H))
    (h1 : ∀ i (hi : i < l.length), p l[i] = false → ∀ k, B (st i) k = .ok (.bool false, H)) (h2 : ∀ i (hi : i < l.length), p l[i] = true → ∀ k, B (st i) k = k (st (i + 1))) :
    ∀ i, i ≤ l.length → loopW B (st i) = .ok (.bool ((l.drop i).all p), H) := by
  have key : ∀ k i, i + k = l.length → loopW B (st i) = .ok (.bool ((l.drop i).all p), H) := by
    intro k
    induction k with
    | zero =>
      intro i h
      obtain rfl : i = l.length := by omega
      rw [List.drop_length]
      exact loopW_done h0
    | succ k ih =>
      intro i h
      have hi : i < l.length := by omega
      rw [List.drop_eq_getElem_cons hi, List.all_cons]
      cases hp : p l[i] with
      | false => exact loopW_done (h1 i hi hp)
      | true => exact loopW_step (h2 i hi hp) (by rw [Bool.true_and]; exact ih (i + 1) (by omega))
  exact fun i hi => key (l.length - i) i (by omega)

def parts (n : Nd) (s u f : Bool) : Bool := (s || n.str == []) && (u || n.num == 0) && (f || !n.flag)
theorem s_parts (n : Nd) (a b c : Bool) (H : Heap) : W m 23 [n.av, .bool a, .bool b, .bool c] H = .ok (.bool (parts n a b c), H) := by
  rw [n.av_eq]
  refine c23 rfl n.kind n.str n.num n.flag _ n.pos a b c H ?_
  unfold g23 parts
  simp +contextual -implicitDefEqProofs [guard_t', guard_f', cond_b', ite_ok, ite_pair, pick_and, pick_or, guard_it, guard_if, guard_et, guard_ef]
theorem s_none (n : Nd) (H : Heap) : W m 59 [n.av] H = .ok (.bool (n.kind == 56 && parts n false false false && n.kids.isEmpty), H) := by
  rw [n.av_eq]
  refine c59 rfl n.kind n.str n.num n.flag _ n.pos H ?_
  unfold g59
  simp +contextual -implicitDefEqProofs [guard_t', guard_f', cond_b', ite_ok, ite_pair, pick_and, pick_or, guard_it, guard_if, guard_et, guard_ef, s_parts, ← beq_len0]
theorem s_Place (n : Nd) (H : Heap) : W m 111 [n.av] H = .ok (.bool (isP n), H) := by
  rw [n.av_eq]
  refine c111 rfl n.kind n.str n.num n.flag _ n.pos H ?_
  unfold g111 isP
  simp +contextual -implicitDefEqProofs [guard_t', guard_f', cond_b', ite_ok, ite_pair, pick_and, pick_or, guard_it, guard_if, guard_et, guard_ef]
theorem struct_len (s : List UInt8) : (([115, 116, 114, 117, 99, 116, 32] : List UInt8).isPrefixOf s && name (s.drop 7)) = (decide (s.length > 7) && (s.take 7 == [115, 116, 114, 117, 99, 116, 32]) && name (s.drop 7)) := by
  rw [prefix_iff]
  by_cases h : s.length > 7
  · simp [show 7 ≤ s.length by omega, h]
  · have hd : s.drop 7 = [] := List.drop_eq_nil_of_le (by omega)
    simp [hd, name, named]
def typedN (n : Nd) : Bool := n.kind == 16 && parts n true false false && n.kids.isEmpty && typed n.str
theorem s_typedN {n : Nd} (hs : n.str.length < 1073741824) (H : Heap) : W m 38 [n.av] H = .ok (.bool (typedN n), H) := by
  have hd : (n.str.drop 7).length < 1099511627776 := by simp; omega
  have a1 := fun H => s_name8 (m := m) hd H
  rw [n.av_eq]
  refine c38 rfl n.kind n.str n.num n.flag _ n.pos H ?_
  unfold g38 typedN typed
  simp only [fold_cs, fold_av]
  rw [struct_len]
  have e0 : ((0 : Int) < (n.kids.length : Int)) = (0 < n.kids.length) := by simp
  cases hk : (n.kind == 16 && parts n true false false && n.kids.isEmpty) with
  | false =>
    rw [Bool.false_and]
    have h2 : decide ((n.kids.length : Int) > 0) = !(n.kids.isEmpty)  := by cases n.kids <;> simp
    have hne : (n.kind != 16) = !(n.kind == 16) := rfl
    cases h1 : (n.kind == 16) <;> cases h3 : parts n true false false <;> cases h4 : n.kids.isEmpty <;> simp -implicitDefEqProofs only [h1, h3, h4, Bool.and_true, Bool.true_and, Bool.and_false, Bool.false_and, Bool.true_eq_false] at hk <;> simp -implicitDefEqProofs only [hne, h1, h3, h4, h2, s_parts, guard_ff, guard_tf, Bool.not_true, Bool.not_false, bind_ok, un_not, pick_tt, pick_ff, len_kv, bin_gtr, cond_tt, cond_ff, gc_bool]
  | true =>
    rw [Bool.true_and]
    simp only [Bool.and_eq_true] at hk
    obtain ⟨⟨k1, k2⟩, k3⟩ := hk
    have hne : (n.kind != 16) = false := by simp [bne, k1]
    have hkn : n.kids = [] := by simpa using k3
    by_cases h7 : n.str.length > 7
    · have h7' : decide ((n.str.length : Int) > 7) = true := decide_eq_true (by omega)
      have e1 : M.sliceStr (.str n.str) none (some (.int .i64 7)) = .ok (.str (n.str.take 7)) := slice_str_to (s := n.str) (k' := .i64) (j := 7) (by omega) (by omega)
      have e2 : M.sliceStr (.str n.str) (some (.int .i64 7)) none = .ok (.str (n.str.drop 7)) := slice_str_from (s := n.str) (k := .i64) (i := 7) (by omega) (by omega)
      cases hx : (n.str.take 7 == [115, 116, 114, 117, 99, 116, 32]) with
      | true =>
        have hne2 : ∀ t : List UInt8, t.length ≤ 7 → (n.str == t) = false := fun t ht => beq_eq_false_iff_ne.2 (fun e => by rw [e] at h7; omega)
        simp -implicitDefEqProofs [hne, s_parts, k2, hkn, h7', e1, hx, e2, a1, h7, hne2]
      | false =>
        simp +contextual -implicitDefEqProofs [guard_t', guard_f', cond_b', ite_ok, ite_pair, pick_and, pick_or, guard_it, guard_if, guard_et, guard_ef, hne, s_parts, k2, hkn, h7', e1, hx, h7]
    · have h7' : decide ((n.str.length : Int) > 7) = false := decide_eq_false (by omega)
      simp +contextual -implicitDefEqProofs [guard_t', guard_f', cond_b', ite_ok, ite_pair, pick_and, pick_or, guard_it, guard_if, guard_et, guard_ef, hne, s_parts, k2, hkn, h7', h7]
end Go.Proofs.YtnhblghplohonaaGreatDoor.Ab
/- Walks: the reference's Check: which expressions may be. -/
namespace Go.Proofs.YtnhblghplohonaaGreatDoor.Ab
open Go
variable {m : Int}

theorem zipAll_E : ∀ (k : Nat) (l : List Nd), l.length = k → ∀ p : Nd → Bool, zipAll (List.replicate k p) l = l.all p
  | 0, [], _, p => rfl
  | k + 1, x :: l, h, p => by rw [List.replicate_succ, zipAll, zipAll_E k l (by simpa using h) p, List.all_cons]
theorem shape_E (l : List Nd) (k : Nat) (p : Nd → Bool) : shape l (List.replicate k p) = (decide (l.length = k) && l.all p) := by
  unfold shape
  rw [List.length_replicate]
  by_cases h : l.length = k
  · rw [zipAll_E k l h p]
  · simp [h]
theorem shape1 (l : List Nd) (p : Nd → Bool) : shape l [p] = (decide (l.length = 1) && l.all p) := shape_E l 1 p
theorem shape2 (l : List Nd) (p : Nd → Bool) : shape l [p, p] = (decide (l.length = 2) && l.all p) := shape_E l 2 p
theorem shape3 (l : List Nd) (p : Nd → Bool) : shape l [p, p, p] = (decide (l.length = 3) && l.all p) := shape_E l 3 p
theorem all_and (l : List Nd) (p q : Nd → Bool) : (l.all fun k => p k && q k) = (l.all p && l.all q) := by
  induction l with
  | nil => rfl
  | cons x r ih => simp only [List.all_cons, ih]; cases p x <;> cases q x <;> simp
/-- An expression, for the reference. -/
def okE (n : Nd) : Bool := isE n && mayP n
theorem typedN_eq (n : Nd) : typedN n = (n.kind == 16 && mayP n) := by
  cases h : (n.kind == 16) with
  | false => simp [typedN, h]
  | true =>
    have h' : n.kind = 16 := by simpa using h
    rw [mayP_eq, typedN, h]
    cases hk : n.kids.isEmpty with
    | false => simp [itselfP, exprsP, h', hk]
    | true =>
      have : n.kids = [] := by simpa using hk
      simp [itselfP, exprsP, h', this, parts]
      cases (n.num == 0) <;> cases typed n.str <;> simp
theorem exprs_loop {n : Nd} (hk : n.kids.length < 1099511627776) (hx : ∀ x ∈ n.kids, ∀ H, W m 60 [x.av] H = .ok (.bool (okE x), H)) (H : Heap) :
    loopW (g61_l4 (W m) loopW H) ([.int .i64 0], [(2, n.cs)], H.start) = .ok (.bool (n.kids.all okE), H) := by
  have := all_loop (B := g61_l4 (W m) loopW H) (st := fun i => ([.int .i64 (i : Nat)], [(2, n.cs)], H.start)) (l := n.kids) (p := okE) (H := H)
    (fun k => by
      unfold g61_l4
      simp -implicitDefEqProofs [Locs.find])
    (fun i hi hp k => by
      unfold g61_l4
      simp -implicitDefEqProofs [Locs.find, hi, index_kvn hi, hx _ (List.getElem_mem hi), hp])
    (fun i hi hp k => by
      unfold g61_l4
      simp -implicitDefEqProofs [Locs.find, hi, index_kvn hi, hx _ (List.getElem_mem hi), hp, wrap_i64 (x := (i : Int) + 1) (by omega) (by omega)]) 0 (by omega)
  exact this
theorem s_exprs {n : Nd} (hk : n.kids.length < 1099511627776) (hx : ∀ x ∈ n.kids, ∀ H, W m 60 [x.av] H = .ok (.bool (okE x), H)) (k : Nat) (H : Heap) :
    W m 61 [n.av, .int .i64 k] H = .ok (.bool (decide (n.kids.length = k) && n.kids.all okE), H) := by
  have h := exprs_loop hk hx H
  rw [n.av_eq]
  refine c61 rfl n.kind n.str n.num n.flag _ n.pos _ H ?_
  unfold g61
  have hb : ((n.kids.length : Int) != (k : Int)) = !(decide (n.kids.length = k)) := by rw [Bool.eq_iff_iff]; simp only [bne_iff_ne, ne_eq, Bool.not_eq_true', decide_eq_false_iff_not]; omega
  have h0 : decide ((k : Int) ≥ 0) = true := decide_eq_true (by omega)
  cases hd : decide (n.kids.length = k) with
  | false => simp -implicitDefEqProofs only [h0, guard_tt, bind_ok, len_kv, bin_neq, hb, hd, Bool.not_false, pick_tt, cond_tt, gc_bool, Bool.false_and]
  | true =>
    simp -implicitDefEqProofs only [h0, guard_tt, bind_ok, len_kv, bin_neq, hb, hd, Bool.not_true, pick_tt, cond_ff, fold_cs, Bool.true_and]
    exact h
theorem s_exprs_any {n : Nd} (hk : n.kids.length < 1099511627776) (hx : ∀ x ∈ n.kids, ∀ H, W m 60 [x.av] H = .ok (.bool (okE x), H)) (H : Heap) :
    W m 61 [n.av, .int .i64 (-1)] H = .ok (.bool (n.kids.all okE), H) := by
  have h := exprs_loop hk hx H
  rw [n.av_eq]
  refine c61 rfl n.kind n.str n.num n.flag _ n.pos _ H ?_
  unfold g61
  simp -implicitDefEqProofs [← fold_cs] at h ⊢
  exact h
theorem sg1 (s : List UInt8) : sign [32, 45, 32, 126, 32, 33, 32, 38, 32] s = one unS s := rfl
theorem sg2 (s : List UInt8) : sign [32, 42, 32, 47, 32, 37, 32, 43, 32, 45, 32, 60, 60, 32, 62, 62, 32, 60, 32, 62, 32, 60, 61, 32, 62, 61, 32, 61, 61, 32, 33, 61, 32, 38, 32, 94, 32, 124, 32] s = one binS s := rfl
theorem sg3 (s : List UInt8) : sign [32, 38, 38, 32, 124, 124, 32] s = one logS s := rfl
theorem sg4 (s : List UInt8) : sign [32, 61, 32, 43, 61, 32, 45, 61, 32, 42, 61, 32, 47, 61, 32, 37, 61, 32, 38, 61, 32, 124, 61, 32, 94, 61, 32, 60, 60, 61, 32, 62, 62, 61, 32] s = one asgS s := rfl
theorem len1 {l : List Nd} (h : l.length = 1) : ∃ x, l = [x] := by
  match l, h with
  | [x], _ => exact ⟨x, rfl⟩
theorem len2 {l : List Nd} (h : l.length = 2) : ∃ x y, l = [x, y] := by
  match l, h with
  | [x, y], _ => exact ⟨x, y, rfl⟩
theorem isE_isP (x : Nd) : (isE x && isP x) = isP x := by
  unfold isE isP
  rw [Bool.eq_iff_iff]
  simp only [Bool.and_eq_true, Bool.or_eq_true, decide_eq_true_eq, beq_iff_eq]
  omega
theorem isE_is16 (x : Nd) (h : isE x = true) : (x.kind == 16) = false := by
  unfold isE at h
  simp only [Bool.and_eq_true, decide_eq_true_eq] at h
  exact beq_eq_false_iff_ne.2 (by omega)
theorem s_mayR : ∀ n : Nd, n.sz < 1073741824 → ∀ H, W m 91 [n.av] H = .ok (.bool (okE n), H) := by
  refine Nd.ind fun n ih hs H => ?_
  have hn := fit_of hs
  have hk := hn.k
  have he : ∀ x ∈ n.kids, ∀ H, W m 60 [x.av] H = .ok (.bool (okE x), H) := fun x hx H => by
    have a := fun H => ih x hx (by have := Nd.sz_kid hx; omega) H
    rw [x.av_eq]
    refine c60 rfl x.kind x.str x.num x.flag _ x.pos H ?_
    unfold g60
    have : okE x = (decide (1 ≤ x.kind) && decide (x.kind ≤ 15) && okE x) := by unfold okE isE; cases decide (1 ≤ x.kind) <;> cases decide (x.kind ≤ 15) <;> simp
    rw [this]
    simp +contextual -implicitDefEqProofs [guard_t', guard_f', cond_b', ite_ok, ite_pair, pick_and, pick_or, guard_it, guard_if, guard_et, guard_ef, a]
  have a0 := fun (k : Nat) H => s_exprs (m := m) (n := n) hk he k H
  have x0 : ∀ H, W m 61 [n.av, .int .i64 0] H = _ := fun H => a0 0 H
  have x1 : ∀ H, W m 61 [n.av, .int .i64 1] H = _ := fun H => a0 1 H
  have x2 : ∀ H, W m 61 [n.av, .int .i64 2] H = _ := fun H => a0 2 H
  have x3 : ∀ H, W m 61 [n.av, .int .i64 3] H = _ := fun H => a0 3 H
  have xa := fun H => s_exprs_any (m := m) (n := n) hk he H
  have b1 := fun H => s_name8 (m := m) (s := n.str) (by have := hn.s; omega) H
  have b2 := fun (l : List UInt8) (hl : l.length < 1073741824) H => s_sign (m := m) (l := l) (s := n.str) hl hn.s H
  have c1 := b2 [32, 45, 32, 126, 32, 33, 32, 38, 32] (by decide)
  have c2 := b2 [32, 42, 32, 47, 32, 37, 32, 43, 32, 45, 32, 60, 60, 32, 62, 62, 32, 60, 32, 62, 32, 60, 61, 32, 62, 61, 32, 61, 61, 32, 33, 61, 32, 38, 32, 94, 32, 124, 32] (by decide)
  have c3 := b2 [32, 38, 38, 32, 124, 124, 32] (by decide)
  have c4 := b2 [32, 61, 32, 43, 61, 32, 45, 61, 32, 42, 61, 32, 47, 61, 32, 37, 61, 32, 38, 61, 32, 124, 61, 32, 94, 61, 32, 60, 60, 61, 32, 62, 62, 61, 32] (by decide)
  simp only [sg1, sg2, sg3, sg4] at c1 c2 c3 c4
  have hall : n.kids.all okE = (n.kids.all isE && n.kids.all mayP) := all_and _ _ _
  have hz : decide (n.kids.length = 0) = n.kids.isEmpty := by cases n.kids <;> simp
  have hfold : AV.agg [.int .i64 n.kind, .str n.str, .int .u32 n.num, .bool n.flag, kv n.nil n.kids, .int .i64 n.pos] = n.av := n.av_eq.symm
  have hze : n.kids.isEmpty = true → n.kids = [] := fun h => by simpa using h
  rw [n.av_eq]
  refine c91 rfl n.kind n.str n.num n.flag _ n.pos H ?_
  unfold g91 jn
  simp only [fold_cs, fold_av]
  have hok : okE n = (isE n && (itselfP n && n.kids.all mayP)) := by rw [okE, mayP_eq]
  rw [hok]
  unfold itselfP isE exprsP
  rcases (by omega : n.kind = 1 ∨ n.kind = 2 ∨ n.kind = 3 ∨ n.kind = 4 ∨ n.kind = 5 ∨ n.kind = 6 ∨ n.kind = 7 ∨ n.kind = 8 ∨ n.kind = 9 ∨ n.kind = 10 ∨ n.kind = 11 ∨ n.kind = 12 ∨ n.kind = 13 ∨ n.kind = 14 ∨ n.kind = 15 ∨ (n.kind < 1 ∨ 15 < n.kind)) with h | h | h | h | h | h | h | h | h | h | h | h | h | h | h | h
  rotate_right
  · have hx : (decide (1 ≤ n.kind) && decide (n.kind ≤ 15)) = false := by simp; omega
    simp only [hx, Bool.false_and]
    simp only [beq_eq_false_iff_ne.2 (show n.kind ≠ 1 by omega), beq_eq_false_iff_ne.2 (show n.kind ≠ 2 by omega), beq_eq_false_iff_ne.2 (show n.kind ≠ 3 by omega), beq_eq_false_iff_ne.2 (show n.kind ≠ 4 by omega), beq_eq_false_iff_ne.2 (show n.kind ≠ 5 by omega), beq_eq_false_iff_ne.2 (show n.kind ≠ 6 by omega), beq_eq_false_iff_ne.2 (show n.kind ≠ 7 by omega), beq_eq_false_iff_ne.2 (show n.kind ≠ 8 by omega), beq_eq_false_iff_ne.2 (show n.kind ≠ 9 by omega), beq_eq_false_iff_ne.2 (show n.kind ≠ 10 by omega), beq_eq_false_iff_ne.2 (show n.kind ≠ 11 by omega), beq_eq_false_iff_ne.2 (show n.kind ≠ 12 by omega), beq_eq_false_iff_ne.2 (show n.kind ≠ 13 by omega), beq_eq_false_iff_ne.2 (show n.kind ≠ 14 by omega), beq_eq_false_iff_ne.2 (show n.kind ≠ 15 by omega), cond_ff, bind_ok, List.getD_cons_zero, List.getD_cons_succ, bin_eql, Locs.find, Nat.reduceBEq, if_true, onO_some, ldc_cs0, gc_bool]
  case inr.inr.inr.inr.inr.inr.inr.inr.inr.inr.inr.inr.inl =>
    simp only [h, beq_self_eq_true, Int.reduceBEq, cond_tt, cond_ff, bind_ok, List.getD_cons_zero, List.getD_cons_succ, bin_eql, Locs.find, Nat.reduceBEq, if_true, onO_some, ldc_cs0, ldc_cs, s_parts]
    by_cases h2 : n.kids.length = 2
    · obtain ⟨x, y, hl⟩ := len2 h2
      have hx := isE_isP x
      simp +contextual -implicitDefEqProofs [guard_t', guard_f', cond_b', ite_ok, ite_pair, pick_and, pick_or, guard_it, guard_if, guard_et, guard_ef, h, x2, c4, parts, hl, okE, shape, zipAll, s_Place]
      revert hx
      cases isE x <;> cases isP x <;> cases isE y <;> cases mayP x <;> cases mayP y <;> simp [Bool.and_comm, Bool.and_left_comm, Bool.and_assoc]
    · simp +contextual -implicitDefEqProofs [guard_t', guard_f', cond_b', ite_ok, ite_pair, pick_and, pick_or, guard_it, guard_if, guard_et, guard_ef, h, x2, c4, parts, h2, shape]
  case inr.inr.inr.inr.inr.inr.inr.inr.inr.inr.inr.inr.inr.inl =>
    simp only [h, beq_self_eq_true, Int.reduceBEq, cond_tt, cond_ff, bind_ok, List.getD_cons_zero, List.getD_cons_succ, bin_eql, Locs.find, Nat.reduceBEq, if_true, onO_some, ldc_cs0, ldc_cs, s_parts]
    have hb : ((n.kids.length : Int) == 2) = decide (n.kids.length = 2) := by rw [Bool.eq_iff_iff]; simp only [beq_iff_eq, decide_eq_true_eq]; omega
    by_cases h2 : n.kids.length = 2
    · obtain ⟨x, y, hl⟩ := len2 h2
      have hy := he y (by rw [hl]; simp)
      have ht := fun H => s_typedN (m := m) (n := x) (fit_of (by have := Nd.sz_kid (show x ∈ n.kids by rw [hl]; simp); omega)).s H
      simp +contextual -implicitDefEqProofs [guard_t', guard_f', cond_b', ite_ok, ite_pair, pick_and, pick_or, guard_it, guard_if, guard_et, guard_ef, h, parts, hl, okE, shape, zipAll, ht, hy, typedN_eq, isK]
      cases (x.kind == 16) <;> cases isE y <;> cases mayP x <;> cases mayP y <;> simp [Bool.and_comm, Bool.and_left_comm, Bool.and_assoc]
    · simp +contextual -implicitDefEqProofs [guard_t', guard_f', cond_b', ite_ok, ite_pair, pick_and, pick_or, guard_it, guard_if, guard_et, guard_ef, h, parts, hb, h2, shape]
  case inr.inr.inr.inr.inr.inr.inr.inr.inr.inr.inr.inr.inr.inr.inl =>
    simp only [h, beq_self_eq_true, Int.reduceBEq, cond_tt, cond_ff, bind_ok, List.getD_cons_zero, List.getD_cons_succ, bin_eql, Locs.find, Nat.reduceBEq, if_true, onO_some, ldc_cs0, ldc_cs, s_parts]
    have hb : ((n.kids.length : Int) == 1) = decide (n.kids.length = 1) := by rw [Bool.eq_iff_iff]; simp only [beq_iff_eq, decide_eq_true_eq]; omega
    by_cases h2 : n.kids.length = 1
    · obtain ⟨x, hl⟩ := len1 h2
      have hy := he x (by rw [hl]; simp)
      have ht := fun H => s_typedN (m := m) (n := x) (fit_of (by have := Nd.sz_kid (show x ∈ n.kids by rw [hl]; simp); omega)).s H
      simp +contextual -implicitDefEqProofs [guard_t', guard_f', cond_b', ite_ok, ite_pair, pick_and, pick_or, guard_it, guard_if, guard_et, guard_ef, h, parts, hl, okE, shape, zipAll, ht, hy, typedN_eq]
      cases (x.kind == 16) <;> cases isE x <;> cases mayP x <;> simp [Bool.and_comm, Bool.and_left_comm, Bool.and_assoc]
    · simp +contextual -implicitDefEqProofs [guard_t', guard_f', cond_b', ite_ok, ite_pair, pick_and, pick_or, guard_it, guard_if, guard_et, guard_ef, h, parts, hb, h2, shape]
  all_goals simp only [h, beq_self_eq_true, Int.reduceBEq, cond_tt, cond_ff, bind_ok, List.getD_cons_zero, List.getD_cons_succ, bin_eql, Locs.find, Nat.reduceBEq, if_true, onO_some, ldc_cs0, ldc_cs, s_parts]
  all_goals simp +contextual -implicitDefEqProofs [guard_t', guard_f', cond_b', ite_ok, ite_pair, pick_and, pick_or, guard_it, guard_if, guard_et, guard_ef, h, x0, x1, x2, x3, xa, b1, c1, c2, c3, c4, hall, parts, shape1, shape2, shape3]
  all_goals first
    | (simp only [Bool.and_comm, Bool.and_left_comm, Bool.and_assoc]; done)
    | (generalize n.kids = l; cases l <;> simp [Bool.and_comm, Bool.and_left_comm, Bool.and_assoc, Bool.or_comm])
theorem s_exprR {n : Nd} (hs : n.sz < 1073741824) (H : Heap) : W m 60 [n.av] H = .ok (.bool (okE n), H) := by
  have a := fun H => s_mayR (m := m) n hs H
  rw [n.av_eq]
  refine c60 rfl n.kind n.str n.num n.flag _ n.pos H ?_
  unfold g60
  have : okE n = (decide (1 ≤ n.kind) && decide (n.kind ≤ 15) && okE n) := by unfold okE isE; cases decide (1 ≤ n.kind) <;> cases decide (n.kind ≤ 15) <;> simp
  rw [this]
  simp +contextual -implicitDefEqProofs [guard_t', guard_f', cond_b', ite_ok, ite_pair, pick_and, pick_or, guard_it, guard_if, guard_et, guard_ef, a]
end Go.Proofs.YtnhblghplohonaaGreatDoor.Ab
/- Walks: the reference's Check: variables. -/
namespace Go.Proofs.YtnhblghplohonaaGreatDoor.Ab
open Go
variable {m : Int}

def noneN (n : Nd) : Bool := n.kind == 56 && parts n false false false && n.kids.isEmpty
theorem noneN_eq (n : Nd) : noneN n = (n.kind == 56 && mayP n) := by
  unfold noneN
  cases h : (n.kind == 56) with
  | false => simp
  | true =>
    have h' : n.kind = 56 := by simpa using h
    rw [mayP_eq]
    unfold itselfP statsP
    simp only [h', isE, isS, parts]
    simp only [Bool.true_and, Bool.false_or, Int.reduceLE, decide_true, decide_false, Int.reduceBEq, Bool.and_false, Bool.and_true, Bool.false_and, Bool.or_false, Bool.or_true, Int.reduceEq, if_false, if_true, Bool.false_eq_true]
    generalize n.kids = l
    cases l <;> simp [Bool.and_comm, Bool.and_left_comm]
def listN (n : Nd) : Bool := n.kind == 44 && parts n false false false && !(n.kids.isEmpty) && n.kids.all okE
theorem listN_eq (n : Nd) : listN n = (n.kind == 44 && mayP n) := by
  unfold listN
  cases h : (n.kind == 44) with
  | false => simp
  | true =>
    have h' : n.kind = 44 := by simpa using h
    rw [mayP_eq, show n.kids.all okE = (n.kids.all isE && n.kids.all mayP) from all_and _ _ _]
    unfold itselfP declsP
    simp only [h', isE, isS, parts]
    simp only [Bool.true_and, Bool.false_or, Int.reduceLE, decide_true, decide_false, Int.reduceBEq, Bool.and_false, Bool.and_true, Bool.false_and, Bool.or_false, Bool.or_true, Int.reduceEq, if_false, if_true, Bool.false_eq_true]
    simp only [Bool.and_comm, Bool.and_left_comm, Bool.and_assoc]
def tailR (bare f : Bool) : List Nd → Bool
  | [] => true
  | [x] => !bare && ((f && listN x) || okE x)
  | _ => false
def varR (n : Nd) (bare : Bool) : Bool :=
  n.kind == 43 && parts n true false true && name n.str && (if n.flag then (match n.kids with | [] => false | x :: r => (noneN x || okE x) && tailR bare true r) else tailR bare false n.kids)
theorem listN_split (f : Bool) (x : Nd) : (f && listN x) = (f && x.kind == 44 && parts x false false false && !(x.kids.isEmpty) && x.kids.all okE) := by
  unfold listN; simp only [Bool.and_assoc]
theorem len_pos (l : List Nd) : decide ((l.length : Int) > 0) = !(l.isEmpty) := by cases l <;> simp
theorem s_varR {n : Nd} (hs : n.sz < 1073741824) (bare : Bool) (H : Heap) : W m 39 [n.av, .bool bare] H = .ok (.bool (varR n bare), H) := by
  have hn := fit_of hs
  have a1 := fun H => s_name8 (m := m) (s := n.str) (by have := hn.s; omega) H
  have a2 := fun (x : Nd) (hx : x ∈ n.kids) H => s_exprR (m := m) (n := x) (by have := Nd.sz_kid hx; omega) H
  have a3 := fun (x : Nd) (hx : x ∈ n.kids) H => s_exprs_any (m := m) (n := x) (fit_of (by have := Nd.sz_kid hx; omega)).k (fun y hy H => s_exprR (by have := Nd.sz_kid hx; have := Nd.sz_kid hy; omega) H) H
  have hne : (n.kind != 43) = !(n.kind == 43) := rfl
  rw [n.av_eq]
  refine c39 rfl n.kind n.str n.num n.flag _ n.pos bare H ?_
  unfold g39 varR
  simp only [fold_cs, fold_av]
  cases h0 : (n.kind == 43 && parts n true false true && name n.str) with
  | false =>
    cases h1 : (n.kind == 43) <;> cases h2 : parts n true false true <;> cases h3 : name n.str <;> simp only [h1, h2, h3, Bool.and_true, Bool.true_and, Bool.and_false, Bool.false_and, Bool.true_eq_false] at h0 <;> simp -implicitDefEqProofs [hne, h1, h2, h3, s_parts, a1]
  | true =>
    simp only [Bool.and_eq_true] at h0
    obtain ⟨⟨h1, h2⟩, h3⟩ := h0
    simp -implicitDefEqProofs only [hne, h1, h2, h3, s_parts, a1, Bool.not_true, guard_ff, guard_tf, bind_ok, un_not, pick_ff, cond_ff, jn]
    cases hf : n.flag with
    | false =>
      simp only [cond_ff, Bool.false_eq_true, if_false]
      match hl : n.kids with
      | [] => simp -implicitDefEqProofs [tailR]
      | [x] =>
        have b2 := a2 x (by rw [hl]; simp)
        cases bare <;> simp -implicitDefEqProofs [tailR, Locs.find, b2, hf]
      | x :: y :: r =>
        have h1 : ((r.length : Int) + 1 + 1 == 0) = false := beq_eq_false_iff_ne.2 (by omega)
        have h2 : decide ((1 : Int) < (r.length : Int) + 1 + 1) = true := decide_eq_true (by omega)
        cases bare <;> simp -implicitDefEqProofs [tailR, h1, h2]
    | true =>
      simp only [cond_tt, if_true]
      match hl : n.kids with
      | [] => simp -implicitDefEqProofs
      | [x] =>
        have b2 := a2 x (by rw [hl]; simp)
        obtain ⟨b', hb⟩ := slice_kv_1 n.nil x []
        cases hq : noneN x <;> cases ho : okE x <;> simp -implicitDefEqProofs [hb, tailR, s_none, show (x.kind == 56 && parts x false false false && x.kids.isEmpty) = noneN x from rfl, hq, ho, b2]
      | [x, y] =>
        have b2 := a2 x (by rw [hl]; simp)
        have b3 := a2 y (by rw [hl]; simp)
        have b4 := a3 y (by rw [hl]; simp)
        obtain ⟨b', hb⟩ := slice_kv_1 n.nil x [y]
        have hly := listN_split true y
        rw [Bool.true_and, Bool.true_and] at hly
        cases hq : (noneN x || okE x) with
        | false =>
          simp only [Bool.or_eq_false_iff] at hq
          simp -implicitDefEqProofs [hb, tailR, s_none, show (x.kind == 56 && parts x false false false && x.kids.isEmpty) = noneN x from rfl, hq.1, hq.2, b2]
        | true =>
          have hpass : ∀ K : Out Ans → Prop, True := fun _ => trivial
          cases bare with
          | true => cases hn1 : noneN x <;> cases ho1 : okE x <;> simp only [hn1, ho1, Bool.or_false, Bool.or_true, Bool.false_eq_true] at hq <;> simp -implicitDefEqProofs [hb, tailR, s_none, show (x.kind == 56 && parts x false false false && x.kids.isEmpty) = noneN x from rfl, hn1, ho1, b2]
          | false =>
            have hpos : (!(y.kids.isEmpty)) = decide (0 < y.kids.length) := by cases y.kids <;> simp
            simp only [tailR, Bool.not_false, Bool.true_and]
            rw [show listN y = (y.kind == 44 && parts y false false false && decide (0 < y.kids.length) && y.kids.all okE) by rw [← hpos]; rfl]
            cases hn1 : noneN x <;> cases ho1 : okE x <;> simp only [hn1, ho1, Bool.or_false, Bool.or_true, Bool.false_eq_true] at hq <;>
            simp +contextual -implicitDefEqProofs [guard_t', guard_f', cond_b', ite_ok, ite_pair, pick_and, pick_or, guard_it, guard_if, guard_et, guard_ef, hb, s_none, show (x.kind == 56 && parts x false false false && x.kids.isEmpty) = noneN x from rfl, hn1, ho1, b2, b3, b4, Locs.find, hf, s_parts]
      | x :: y :: z :: r =>
        have b2 := a2 x (by rw [hl]; simp)
        obtain ⟨b', hb⟩ := slice_kv_1 n.nil x (y :: z :: r)
        have h0 : ((r.length : Int) + 1 + 1 + 1 == 0) = false := beq_eq_false_iff_ne.2 (by omega)
        have h1 : ((r.length : Int) + 1 + 1 == 0) = false := beq_eq_false_iff_ne.2 (by omega)
        have h2 : decide ((1 : Int) < (r.length : Int) + 1 + 1) = true := decide_eq_true (by omega)
        cases hq : noneN x <;> cases ho : okE x <;> cases bare <;> simp -implicitDefEqProofs [hb, tailR, s_none, show (x.kind == 56 && parts x false false false && x.kids.isEmpty) = noneN x from rfl, hq, ho, b2, h0, h1, h2]
theorem varR_eq (n : Nd) (bare : Bool) : varR n bare = (n.kind == 43 && mayP n && (!bare || bareV n)) := by
  unfold varR
  cases h : (n.kind == 43) with
  | false => simp
  | true =>
    have h' : n.kind = 43 := by simpa using h
    rw [mayP_eq]
    unfold itselfP declsP varP bareV
    simp only [h', isE, isS, parts, bne]
    simp only [Bool.true_and, Bool.false_or, Int.reduceLE, decide_true, decide_false, Int.reduceBEq, Bool.and_false, Bool.and_true, Bool.false_and, Bool.or_false, Bool.or_true, Bool.true_or, Int.reduceEq, if_false, if_true, Bool.false_eq_true, Bool.not_true, Bool.not_false]
    have e2 : ∀ r : List Nd, (((r.length : Int) + 1 + 1) == 1) = false := fun r => beq_eq_false_iff_ne.2 (by omega)
    have e3 : ∀ r : List Nd, (((r.length : Int) + 1 + 1 + 1) == 1) = false := fun r => beq_eq_false_iff_ne.2 (by omega)
    cases hf : n.flag with
    | false =>
      match hl : n.kids with
      | [] => simp [tailR, varK]; exact Bool.and_comm _ _
      | [x] => cases bare <;> simp [tailR, varK, okE]; cases (n.num == 0) <;> cases name n.str <;> simp
      | x :: y :: r => simp [tailR, varK]
    | true =>
      match hl : n.kids with
      | [] => simp
      | [x] =>
        simp only [noneN_eq]
        simp [tailR, varK, okE, isQ]
        cases (x.kind == 56) <;> cases isE x <;> cases mayP x <;> cases (n.num == 0) <;> cases name n.str <;> simp
      | [x, y] =>
        simp only [noneN_eq]
        cases bare <;> simp [tailR, varK, okE, isQ, listN_eq]
        cases (x.kind == 56) <;> cases isE x <;> cases mayP x <;> cases (n.num == 0) <;> cases name n.str <;> cases (y.kind == 44) <;> cases isE y <;> cases mayP y <;> simp
      | x :: y :: z :: r => simp [tailR, varK]
def varsR (n : Nd) (bare : Bool) : Bool := n.kind == 42 && mayP n && (!bare || n.kids.all bareV)
theorem s_vars {n : Nd} (hs : n.sz < 1073741824) (bare : Bool) (H : Heap) : W m 25 [n.av, .bool bare] H = .ok (.bool (varsR n bare), H) := by
  have hn := fit_of hs
  have hk := hn.k
  have hne : (n.kind != 42) = !(n.kind == 42) := rfl
  have a2 := fun (x : Nd) (hx : x ∈ n.kids) H => s_varR (m := m) (n := x) (by have := Nd.sz_kid hx; omega) bare H
  have a3 := fun (x : Nd) (hx : x ∈ n.kids) H => s_typedN (m := m) (n := x) (fit_of (by have := Nd.sz_kid hx; omega)).s H
  have hloop := all_loop (B := g25_l4 (W m) loopW H) (st := fun i => ([.bool bare, .int .i64 (i : Nat)], [(2, n.cs)], H.start)) (l := n.kids) (p := fun x => varR x bare) (H := H)
    (fun k => by
      unfold g25_l4
      simp -implicitDefEqProofs [Locs.find])
    (fun i hi hp k => by
      unfold g25_l4
      simp -implicitDefEqProofs [Locs.find, hi, index_kvn hi, a2 _ (List.getElem_mem hi), hp])
    (fun i hi hp k => by
      unfold g25_l4
      simp -implicitDefEqProofs [Locs.find, hi, index_kvn hi, a2 _ (List.getElem_mem hi), hp, wrap_i64 (x := (i : Int) + 1) (by omega) (by omega)])
  have hm : varsR n bare = (n.kind == 42 && parts n false false false && (match n.kids with | x :: y :: r => typedN x && (y :: r).all (fun x => varR x bare) | _ => false)) := by
    unfold varsR
    cases h : (n.kind == 42) with
    | false => simp
    | true =>
      have h' : n.kind = 42 := by simpa using h
      rw [mayP_eq]
      unfold itselfP declsP
      simp only [h', isE, isS, parts]
      simp only [Bool.true_and, Bool.false_or, Int.reduceLE, decide_true, decide_false, Int.reduceBEq, Bool.and_false, Bool.and_true, Bool.false_and, Bool.or_false, Bool.or_true, Bool.true_or, Int.reduceEq, if_false, if_true, Bool.false_eq_true, Bool.not_true, Bool.not_false]
      match hl : n.kids with
      | [] => simp
      | [x] => simp
      | x :: y :: r =>
        simp only [typedN_eq, List.all_cons (a := x)]
        have hq : ((y :: r).all fun x => varR x bare) = ((y :: r).all (isK 43) && (y :: r).all mayP && (!bare || (y :: r).all bareV)) := by
          rw [show (fun x => varR x bare) = fun x => (isK 43 x && mayP x) && (!bare || bareV x) from funext fun x => varR_eq x bare, all_and, all_and]
          cases bare
          · simp
          · simp
        rw [hq]
        generalize (y :: r).all (isK 43) = A
        generalize (y :: r).all mayP = B
        generalize (y :: r).all bareV = C
        have hb : (x.kind == 16) = true → bareV x = true := fun h => by
          have : x.kind = 16 := by simpa using h
          simp [bareV, this]
        cases hx : (x.kind == 16) with
        | false => simp
        | true =>
          rw [hb hx]
          cases (n.str == []) <;> cases (n.num == 0) <;> cases n.flag <;> cases mayP x <;> cases A <;> cases B <;> cases C <;> cases bare <;> rfl
  rw [hm, n.av_eq]
  refine c25 rfl n.kind n.str n.num n.flag _ n.pos bare H ?_
  unfold g25
  simp only [fold_cs, fold_av]
  match hl : n.kids with
  | [] => cases h1 : (n.kind == 42) <;> cases h2 : parts n false false false <;> simp -implicitDefEqProofs [hne, h1, h2, s_parts]
  | [x] => cases h1 : (n.kind == 42) <;> cases h2 : parts n false false false <;> simp -implicitDefEqProofs [hne, h1, h2, s_parts]
  | x :: y :: r =>
    have h3 := hloop 1 (by rw [hl]; simp)
    rw [hl] at h3
    have b3 := a3 x (by rw [hl]; simp)
    have hlt : decide ((r.length : Int) + 1 + 1 < 2) = false := decide_eq_false (by omega)
    have h3 : loopW (g25_l4 (W m) loopW H) ([.bool bare, .int .i64 1], [(2, n.cs)], H.start) = .ok (.bool ((y :: r).all fun x => varR x bare), H) := h3
    cases h1 : (n.kind == 42) <;> cases h2 : parts n false false false <;> cases h4 : typedN x <;> simp -implicitDefEqProofs only [hne, h1, h2, h4, s_parts, Bool.not_true, Bool.not_false, guard_ff, guard_tf, bind_ok, un_not, pick_tt, pick_ff, cond_tt, cond_ff, gc_bool, len_kv, List.length_cons, Int.natCast_add, Int.natCast_one, bin_lss, hlt, index_kv0, load_cs, b3, Bool.and_true, Bool.and_false, Bool.false_and, Bool.true_and]
    exact h3
end Go.Proofs.YtnhblghplohonaaGreatDoor.Ab
/- Walks: the reference's Check: statements. -/
namespace Go.Proofs.YtnhblghplohonaaGreatDoor.Ab
open Go
variable {m : Int}

mutual
def openR : Nd → Bool
  | .mk k _ _ _ _ l _ => if k = 49 then (l.length == 2 || (l.length == 3 && lastOpenR l)) else if k = 50 ∨ k = 52 then lastOpenR l else false
def lastOpenR : List Nd → Bool
  | [] => false
  | x :: r => if r.isEmpty then openR x else lastOpenR r
end
theorem openR_eq (n : Nd) : openR n = if n.kind = 49 then (n.kids.length == 2 || (n.kids.length == 3 && lastOpenR n.kids)) else if n.kind = 50 ∨ n.kind = 52 then lastOpenR n.kids else false := by
  cases n; unfold openR; rfl
theorem lastOpenR_last : ∀ (l : List Nd) (h : 0 < l.length), lastOpenR l = openR (l[l.length - 1]'(by omega))
  | [x], _ => rfl
  | x :: y :: r, _ => by
    rw [lastOpenR, if_neg (by simp), lastOpenR_last (y :: r) (by simp)]
    simp
theorem s_openR : ∀ (n : Nd), n.sz < 1073741824 → ∀ H, W m 92 [n.av] H = .ok (.bool (openR n), H) := by
  refine Nd.ind fun n ih hs H => ?_
  have hn := fit_of hs
  rw [openR_eq]
  have hlast : ∀ h : 0 < n.kids.length, ∀ H, W m 92 [(n.kids[n.kids.length - 1]'(by omega)).av] H = .ok (.bool (lastOpenR n.kids), H) := fun h H => by
    rw [lastOpenR_last _ h]
    exact ih _ (List.getElem_mem _) (by have := Nd.sz_kid (n := n) (List.getElem_mem (show n.kids.length - 1 < n.kids.length by omega)); omega) H
  rw [n.av_eq]
  refine c92 rfl n.kind n.str n.num n.flag _ n.pos H ?_
  unfold g92 jn
  simp only [fold_cs]
  have hk := hn.k
  have w1 : ∀ h : 0 < n.kids.length, IntKind.wrap .i64 ((n.kids.length : Int) - 1) = ((n.kids.length - 1 : Nat) : Int) := fun h => by rw [wrap_i64 (by omega) (by omega)]; omega
  have i1 : ∀ h : 0 < n.kids.length, M.indexSl 6 (kv n.nil n.kids) (.int .i64 ((n.kids.length - 1 : Nat) : Int)) = .ok (.iptr (n.kids[n.kids.length - 1]'(by omega)).cs) := fun h => index_kvn (by omega)
  have hnil : ¬ 0 < n.kids.length → lastOpenR n.kids = false := fun h0 => by
    have : n.kids = [] := by cases hk : n.kids; rfl; rw [hk] at h0; simp at h0
    rw [this]; rfl
  rcases (by omega : n.kind = 49 ∨ n.kind = 50 ∨ n.kind = 52 ∨ (n.kind ≠ 49 ∧ n.kind ≠ 50 ∧ n.kind ≠ 52)) with h | h | h | ⟨h1, h2, h3⟩
  · match hl : n.kids with
    | [] => simp -implicitDefEqProofs [h]
    | [x] => simp -implicitDefEqProofs [h]
    | [x, y] => simp -implicitDefEqProofs [h]
    | [x, y, z] =>
      have h4 := fun H => ih z (by rw [hl]; simp) (by have := Nd.sz_kid (show z ∈ n.kids by rw [hl]; simp); omega) H
      simp -implicitDefEqProofs [h, h4, lastOpenR]
    | x :: y :: z :: u :: r =>
      have e2 : ((r.length : Int) + 1 + 1 + 1 + 1 == 2) = false := beq_eq_false_iff_ne.2 (by omega)
      have e3 : ((r.length : Int) + 1 + 1 + 1 + 1 == 3) = false := beq_eq_false_iff_ne.2 (by omega)
      simp -implicitDefEqProofs [h, e2, e3]
  · by_cases h0 : 0 < n.kids.length
    · simp -implicitDefEqProofs [h, h0, Locs.find, w1 h0, i1 h0, hlast h0]
    · simp -implicitDefEqProofs [h, h0, Locs.find, hnil h0]
  · by_cases h0 : 0 < n.kids.length
    · simp -implicitDefEqProofs [h, h0, Locs.find, w1 h0, i1 h0, hlast h0]
    · simp -implicitDefEqProofs [h, h0, Locs.find, hnil h0]
  · simp -implicitDefEqProofs [h1, h2, h3, beq_eq_false_iff_ne.2 h1, beq_eq_false_iff_ne.2 h2, beq_eq_false_iff_ne.2 h3]
def okS (n : Nd) : Bool := isS n && mayP n
theorem noq (x : Nd) : (noneN x || okE x) = (isQ x && mayP x) := by
  rw [noneN_eq]; unfold isQ okE
  cases (x.kind == 56) <;> cases isE x <;> cases mayP x <;> rfl
/-- What okS says of a statement's parts. -/
theorem okS_stats {n : Nd} (h1 : 47 ≤ n.kind) (h2 : n.kind ≤ 56) : okS n = (!n.flag && statsP n && n.kids.all mayP) := by
  unfold okS
  rw [mayP_eq]
  have hS : isS n = true := by unfold isS; simp only [Bool.or_eq_true, Bool.and_eq_true, beq_iff_eq, decide_eq_true_eq]; omega
  have hE : isE n = false := by unfold isE; simp only [Bool.and_eq_false_iff, decide_eq_false_iff_not]; omega
  unfold itselfP
  rw [hS, hE, beq_eq_false_iff_ne.2 (show n.kind ≠ 1 by omega), beq_eq_false_iff_ne.2 (show n.kind ≠ 43 by omega), beq_eq_false_iff_ne.2 (show n.kind ≠ 46 by omega), beq_eq_false_iff_ne.2 (show n.kind ≠ 16 by omega)]
  simp
theorem isS_range (n : Nd) : isS n = (decide (47 ≤ n.kind) && decide (n.kind ≤ 56)) := by
  unfold isS
  rw [Bool.eq_iff_iff]
  simp only [Bool.or_eq_true, Bool.and_eq_true, beq_iff_eq, decide_eq_true_eq]; omega
/-- Of statements that may be both say the same. -/
theorem open_same : ∀ n : Nd, okS n = true → openR n = openP n := by
  refine Nd.ind fun n ih h => ?_
  have hr : 47 ≤ n.kind ∧ n.kind ≤ 56 := by
    unfold okS at h
    rw [isS_range] at h
    simp only [Bool.and_eq_true, decide_eq_true_eq] at h
    exact h.1
  rw [okS_stats hr.1 hr.2] at h
  simp only [Bool.and_eq_true] at h
  obtain ⟨⟨_, h1⟩, h2⟩ := h
  have hall : ∀ x ∈ n.kids, mayP x = true := by simpa using h2
  rw [openR_eq, openP_eq]
  unfold statsP at h1
  simp only [Bool.and_eq_true] at h1
  have h1 := h1.2
  by_cases k49 : n.kind = 49
  · rw [if_pos k49, if_pos k49]
    simp only [k49, Int.reduceEq, if_false, if_true] at h1
    match hl : n.kids with
    | [x, y] => rfl
    | [x, y, z] =>
      rw [hl] at h1
      have hz : isS z = true := by simp [shape, zipAll] at h1; exact h1.1.2.2
      have := ih z (by rw [hl]; simp) (by simp [okS, hz, hall z (by rw [hl]; simp)])
      simp [lastOpenR, lastOpen, this]
    | [] => rw [hl] at h1; simp [shape] at h1
    | [x] => rw [hl] at h1; simp [shape] at h1
    | x :: y :: z :: u :: r => rw [hl] at h1; simp [shape] at h1
  · rw [if_neg k49, if_neg k49]
    by_cases k50 : n.kind = 50
    · rw [if_pos (Or.inl k50), if_pos (Or.inl k50)]
      simp only [k50, Int.reduceEq, if_false, if_true] at h1
      obtain ⟨x, y, hl⟩ := len2 (l := n.kids) (by unfold shape at h1; simp at h1; exact h1.1)
      rw [hl] at h1
      have hz : isS y = true := by simp [shape, zipAll] at h1; exact h1.2
      have := ih y (by rw [hl]; simp) (by simp [okS, hz, hall y (by rw [hl]; simp)])
      rw [hl]
      simp [lastOpenR, lastOpen, this]
    · by_cases k52 : n.kind = 52
      · rw [if_pos (Or.inr k52), if_pos (Or.inr k52)]
        simp only [k52, Int.reduceEq, if_false, if_true] at h1
        match hl : n.kids with
        | [x, y, z, u] =>
          rw [hl] at h1
          have hz : isS u = true := by simp [shape, zipAll] at h1; exact h1.2.2.2
          have := ih u (by rw [hl]; simp) (by simp [okS, hz, hall u (by rw [hl]; simp)])
          simp [lastOpenR, lastOpen, this]
        | [] => rfl
        | [x] => rw [hl] at h1; simp [shape] at h1
        | [x, y] => rw [hl] at h1; simp [shape] at h1
        | [x, y, z] => rw [hl] at h1; simp [shape] at h1
        | x :: y :: z :: u :: w :: r => rw [hl] at h1; simp [shape] at h1
      · rw [if_neg (by omega), if_neg (by omega)]
theorem s_block_of {n : Nd} (hs : n.sz < 1073741824) (hst : ∀ x ∈ n.kids, ∀ H, W m 62 [x.av] H = .ok (.bool (okS x), H)) (H : Heap) :
    W m 40 [n.av] H = .ok (.bool (n.kind == 47 && mayP n), H) := by
  have hn := fit_of hs
  have hk := hn.k
  have hne : (n.kind != 47) = !(n.kind == 47) := rfl
  have a2 := fun (x : Nd) (hx : x ∈ n.kids) H => s_vars (m := m) (n := x) (by have := Nd.sz_kid hx; omega) false H
  have hloop := all_loop (B := g40_l4 (W m) loopW H) (st := fun i => ([.int .i64 (i : Nat)], [(1, n.cs)], H.start)) (l := n.kids) (p := fun x => varsR x false || okS x) (H := H)
    (fun k => by
      unfold g40_l4
      simp -implicitDefEqProofs [Locs.find])
    (fun i hi hp k => by
      simp only [Bool.or_eq_false_iff] at hp
      unfold g40_l4
      simp -implicitDefEqProofs [Locs.find, hi, index_kvn hi, a2 _ (List.getElem_mem hi), hst _ (List.getElem_mem hi), hp.1, hp.2])
    (fun i hi hp k => by
      unfold g40_l4
      cases hv : varsR n.kids[i] false with
      | true => simp -implicitDefEqProofs [Locs.find, hi, index_kvn hi, a2 _ (List.getElem_mem hi), hv, wrap_i64 (x := (i : Int) + 1) (by omega) (by omega)]
      | false =>
        rw [hv, Bool.false_or] at hp
        simp -implicitDefEqProofs [Locs.find, hi, index_kvn hi, a2 _ (List.getElem_mem hi), hst _ (List.getElem_mem hi), hv, hp, wrap_i64 (x := (i : Int) + 1) (by omega) (by omega)])
  have h3 : loopW (g40_l4 (W m) loopW H) ([.int .i64 0], [(1, n.cs)], H.start) = .ok (.bool (n.kids.all fun x => varsR x false || okS x), H) := hloop 0 (by omega)
  have hm : (n.kind == 47 && mayP n) = (n.kind == 47 && parts n false false false && n.kids.all fun x => varsR x false || okS x) := by
    cases h : (n.kind == 47) with
    | false => simp
    | true =>
      have h' : n.kind = 47 := by simpa using h
      have h4 : mayP n = okS n := by unfold okS; rw [isS_range]; simp [h']
      rw [h4, okS_stats (by omega) (by omega), statsP, h', show (fun x => varsR x false || okS x) = fun x => (isS x || x.kind == 42) && mayP x from funext fun x => by
        unfold varsR okS; cases isS x <;> cases (x.kind == 42) <;> cases mayP x <;> rfl, all_and]
      unfold parts
      simp only [if_true, Bool.false_or, Bool.true_and]
      simp only [Bool.and_comm, Bool.and_left_comm, Bool.and_assoc]
  rw [hm, n.av_eq]
  refine c40 rfl n.kind n.str n.num n.flag _ n.pos H ?_
  unfold g40
  simp only [fold_cs, fold_av]
  cases h1 : (n.kind == 47) <;> cases h2 : parts n false false false <;> simp -implicitDefEqProofs only [hne, h1, h2, s_parts, Bool.not_true, Bool.not_false, guard_ff, guard_tf, bind_ok, un_not, pick_tt, pick_ff, cond_tt, cond_ff, gc_bool, Bool.and_true, Bool.and_false, Bool.false_and, Bool.true_and]
  exact h3
end Go.Proofs.YtnhblghplohonaaGreatDoor.Ab
/- Walks: the reference's Check. -/
namespace Go.Proofs.YtnhblghplohonaaGreatDoor.Ab
open Go
variable {m : Int}

theorem s_stR : ∀ n : Nd, n.sz < 1073741824 → ∀ H, W m 62 [n.av] H = .ok (.bool (okS n), H) := by
  refine Nd.ind fun n ih hs H => ?_
  have hn := fit_of hs
  have hk := hn.k
  have st := fun (x : Nd) (hx : x ∈ n.kids) H => ih x hx (by have := Nd.sz_kid hx; omega) H
  have bl := fun H => s_block_of (m := m) hs st H
  have ex := fun (x : Nd) (hx : x ∈ n.kids) H => s_exprR (m := m) (n := x) (by have := Nd.sz_kid hx; omega) H
  have op := fun (x : Nd) (hx : x ∈ n.kids) H => s_openR (m := m) x (by have := Nd.sz_kid hx; omega) H
  have x1 : ∀ H, W m 61 [n.av, .int .i64 1] H = _ := fun H => s_exprs (m := m) (n := n) hk ex 1 H
  have hall : n.kids.all okE = (n.kids.all isE && n.kids.all mayP) := all_and _ _ _
  by_cases hr : 47 ≤ n.kind ∧ n.kind ≤ 56
  · have hok := okS_stats hr.1 hr.2
    cases hp : parts n false false false with
    | false =>
      have : okS n = false := by
        rw [hok, statsP]
        unfold parts at hp
        simp only [Bool.false_or] at hp
        generalize n.kids.all mayP = A
        cases hf : n.flag <;> cases hx : (n.str == []) <;> cases hy : (n.num == 0) <;> simp only [hf, hx, hy, Bool.not_true, Bool.not_false, Bool.and_true, Bool.true_and, Bool.and_false, Bool.false_and, Bool.true_eq_false] at hp ⊢
      rw [this, n.av_eq]
      refine c62 rfl n.kind n.str n.num n.flag _ n.pos H ?_
      unfold g62
      simp only [fold_cs, fold_av]
      simp -implicitDefEqProofs only [len_kv, bind_ok, s_parts, hp, un_not, Bool.not_false, cond_tt, gc_bool]
    | true =>
      have hp' : n.flag = false ∧ n.str = [] ∧ (n.num == 0) = true := by
        unfold parts at hp
        simp only [Bool.false_or, Bool.and_eq_true, Bool.not_eq_true', beq_iff_eq] at hp
        exact ⟨hp.2, hp.1.1, by simpa using hp.1.2⟩
      rw [hok, statsP, hp'.1, hp'.2.1, hp'.2.2]
      rw [n.av_eq]
      refine c62 rfl n.kind n.str n.num n.flag _ n.pos H ?_
      unfold g62 jn
      simp only [fold_cs, fold_av]
      simp -implicitDefEqProofs only [len_kv, bind_ok, s_parts, hp, un_not, Bool.not_true, cond_ff, beq_self_eq_true, Bool.not_false, Bool.true_and]
      rcases (by omega : n.kind = 47 ∨ n.kind = 48 ∨ n.kind = 49 ∨ n.kind = 50 ∨ n.kind = 51 ∨ n.kind = 52 ∨ n.kind = 53 ∨ n.kind = 54 ∨ n.kind = 55 ∨ n.kind = 56) with h | h | h | h | h | h | h | h | h | h
      all_goals simp -implicitDefEqProofs only [h, beq_self_eq_true, Int.reduceBEq, cond_tt, cond_ff, Int.reduceEq, if_false, if_true, List.getD_cons_zero, List.getD_cons_succ, bin_eql, bind_ok]
      case inl =>
        have h47 : (n.kind == 47 && mayP n) = ((n.kids.all fun k => isS k || k.kind == 42) && n.kids.all mayP) := by
          have h4 : mayP n = okS n := by unfold okS; rw [isS_range]; simp [h]
          rw [h4, hok, statsP, h, hp'.1, hp'.2.1, hp'.2.2]; simp
        simp -implicitDefEqProofs only [bl, h47, bind_ok, gc_bool]
      case inr.inl => simp -implicitDefEqProofs only [x1, bind_ok, gc_bool, shape1, hall, Bool.and_assoc]
      case inr.inr.inl =>
        match hl : n.kids with
        | [] => simp -implicitDefEqProofs [shape]
        | [x] => simp -implicitDefEqProofs [shape]
        | [x, y] =>
          have e1 := ex x (by rw [hl]; simp)
          have e2 := st y (by rw [hl]; simp)
          cases he : okE x <;> simp -implicitDefEqProofs [shape, zipAll, e1, e2, he] <;> revert he <;> simp only [okE, okS] <;> cases isE x <;> cases mayP x <;> cases isS y <;> cases mayP y <;> simp
        | [x, y, z] =>
          have e1 := ex x (by rw [hl]; simp)
          have e2 := st y (by rw [hl]; simp)
          have e3 := st z (by rw [hl]; simp)
          have e4 := op y (by rw [hl]; simp)
          have hso := open_same y
          cases hy : okS y with
          | false =>
            cases hz : okS z <;> cases ho : openR y <;> cases he : okE x <;> simp -implicitDefEqProofs [shape, zipAll, e1, e2, e3, e4, he, hy, hz, ho] <;> revert hy <;> simp only [okS] <;> cases isS y <;> cases mayP y <;> simp
          | true =>
            have ho := hso hy
            have hy' : isS y = true ∧ mayP y = true := by simpa [okS] using hy
            cases hop : openP y <;> rw [hop] at ho <;> cases hz : okS z <;> cases he : okE x <;> simp -implicitDefEqProofs [shape, zipAll, e1, e2, e3, e4, he, hy, hz, ho, hop, hy'.1, hy'.2] <;> revert hz he <;> simp only [okE, okS] <;> cases isE x <;> cases mayP x <;> cases isS z <;> cases mayP z <;> simp
        | x :: y :: z :: u :: r =>
          have e2 : ((r.length : Int) + 1 + 1 + 1 + 1 == 2) = false := beq_eq_false_iff_ne.2 (by omega)
          have e3 : ((r.length : Int) + 1 + 1 + 1 + 1 == 3) = false := beq_eq_false_iff_ne.2 (by omega)
          simp -implicitDefEqProofs [shape, e2, e3]
      case inr.inr.inr.inl =>
        have hb : ((n.kids.length : Int) == 2) = decide (n.kids.length = 2) := by rw [Bool.eq_iff_iff]; simp only [beq_iff_eq, decide_eq_true_eq]; omega
        by_cases h2 : n.kids.length = 2
        · obtain ⟨x, y, hl⟩ := len2 h2
          have e1 := ex x (by rw [hl]; simp)
          have e2 := st y (by rw [hl]; simp)
          rw [hl]
          cases he : okE x <;> simp -implicitDefEqProofs [shape, zipAll, e1, e2, he] <;> revert he <;> simp only [okE, okS] <;> cases isE x <;> cases mayP x <;> cases isS y <;> cases mayP y <;> simp
        · simp -implicitDefEqProofs [hb, h2, shape]
      case inr.inr.inr.inr.inl =>
        have hb : ((n.kids.length : Int) == 2) = decide (n.kids.length = 2) := by rw [Bool.eq_iff_iff]; simp only [beq_iff_eq, decide_eq_true_eq]; omega
        by_cases h2 : n.kids.length = 2
        · obtain ⟨x, y, hl⟩ := len2 h2
          have e1 := st x (by rw [hl]; simp)
          have e2 := ex y (by rw [hl]; simp)
          rw [hl]
          cases he : okS x <;> simp -implicitDefEqProofs [shape, zipAll, e1, e2, he] <;> revert he <;> simp only [okE, okS] <;> cases isS x <;> cases mayP x <;> cases isE y <;> cases mayP y <;> simp
        · simp -implicitDefEqProofs [hb, h2, shape]
      case inr.inr.inr.inr.inr.inl =>
        have hb : ((n.kids.length : Int) != 4) = !(decide (n.kids.length = 4)) := by rw [Bool.eq_iff_iff]; simp only [bne_iff_ne, ne_eq, Bool.not_eq_true', decide_eq_false_iff_not]; omega
        by_cases h4 : n.kids.length = 4
        · obtain ⟨x, y, z, u, hl⟩ : ∃ x y z u, n.kids = [x, y, z, u] := by
            match hl : n.kids, h4 with
            | [x, y, z, u], _ => exact ⟨x, y, z, u, rfl⟩
          have hloop := all_loop (B := g62_l19 (W m) loopW H) (st := fun i => ([.int .i64 (i : Nat)], [(1, n.cs)], H.start)) (l := [x, y, z]) (p := fun x => noneN x || okE x) (H := H)
            (fun k => by
              unfold g62_l19
              simp -implicitDefEqProofs)
            (fun i hi hp k => by
              simp only [Bool.or_eq_false_iff] at hp
              have hi' : i < n.kids.length := by rw [hl]; simp at hi ⊢; omega
              have hg : n.kids[i] = [x, y, z][i] := by simp only [hl]; match i, hi with | 0, _ => rfl | 1, _ => rfl | 2, _ => rfl
              have h3 : decide ((i : Int) < 3) = true := decide_eq_true (by simp at hi; omega)
              rw [← hg] at hp
              unfold g62_l19
              simp -implicitDefEqProofs [Locs.find, h3, index_kvn hi', s_none, show ∀ x : Nd, (x.kind == 56 && parts x false false false && x.kids.isEmpty) = noneN x from fun _ => rfl, ex _ (List.getElem_mem hi'), hp.1, hp.2])
            (fun i hi hp k => by
              have hi' : i < n.kids.length := by rw [hl]; simp at hi ⊢; omega
              have hg : n.kids[i] = [x, y, z][i] := by simp only [hl]; match i, hi with | 0, _ => rfl | 1, _ => rfl | 2, _ => rfl
              have h3 : decide ((i : Int) < 3) = true := decide_eq_true (by simp at hi; omega)
              rw [← hg] at hp
              unfold g62_l19
              cases hv : noneN n.kids[i] with
              | true => simp -implicitDefEqProofs [Locs.find, h3, index_kvn hi', s_none, show ∀ x : Nd, (x.kind == 56 && parts x false false false && x.kids.isEmpty) = noneN x from fun _ => rfl, hv, wrap_i64 (x := (i : Int) + 1) (by omega) (by omega)]
              | false =>
                rw [hv, Bool.false_or] at hp
                simp -implicitDefEqProofs [Locs.find, h3, index_kvn hi', s_none, show ∀ x : Nd, (x.kind == 56 && parts x false false false && x.kids.isEmpty) = noneN x from fun _ => rfl, ex _ (List.getElem_mem hi'), hv, hp, wrap_i64 (x := (i : Int) + 1) (by omega) (by omega)])
          have h3 : loopW (g62_l19 (W m) loopW H) ([.int .i64 0], [(1, n.cs)], H.start) = .ok (.bool ([x, y, z].all fun x => noneN x || okE x), H) := hloop 0 (by simp)
          have e2 := st u (by rw [hl]; simp)
          rw [show (fun x => noneN x || okE x) = fun x => isQ x && mayP x from funext noq] at h3
          have hi3 : M.indexSl 6 (kv n.nil n.kids) (.int .i64 3) = .ok (.iptr u.cs) := by rw [hl, index_kv3]
          cases hu : okS u with
          | false =>
            simp -implicitDefEqProofs [hl, shape, zipAll, e2, hu]
            revert hu
            unfold okS
            cases isS u <;> cases mayP u <;> simp
          | true =>
            have hu' : isS u = true ∧ mayP u = true := by simpa [okS] using hu
            have h3 : loopW (g62_l19 (callW (X0 (gl m) pr)) loopW H) ([.int .i64 0], [(1, n.cs)], H.start) = .ok (.bool ([x, y, z].all fun x => isQ x && mayP x), H) := h3
            simp -implicitDefEqProofs [hl, shape, zipAll, e2, hu, h3, hu'.1, hu'.2]
            cases isQ x <;> cases isQ y <;> cases isQ z <;> cases mayP x <;> cases mayP y <;> cases mayP z <;> simp
        · have : decide (n.kids.length = 4) = false := decide_eq_false h4
          simp -implicitDefEqProofs [hb, h4, shape]
      case inr.inr.inr.inr.inr.inr.inr.inr.inl =>
        have hb : ((n.kids.length : Int) == 0) = n.kids.isEmpty := beq_len0 _
        match hl : n.kids with
        | [] => simp -implicitDefEqProofs [hl]
        | x :: r =>
          have e0 : ((r.length : Int) + 1 == 0) = false := beq_eq_false_iff_ne.2 (by omega)
          have e1 : decide ((r.length : Int) + 1 ≤ 1) = decide (r.length = 0) := by rw [Bool.eq_iff_iff]; simp only [decide_eq_true_eq]; omega
          simp -implicitDefEqProofs [e0, e1, x1, hall, hl, Locs.find]
          cases r <;> simp
          rfl
      all_goals (rw [beq_len0]; match hl : n.kids with
        | [] => simp -implicitDefEqProofs
        | x :: r => simp -implicitDefEqProofs)
  · have hno : okS n = false := by
      unfold okS; rw [isS_range]
      have : (decide (47 ≤ n.kind) && decide (n.kind ≤ 56)) = false := by simp only [Bool.and_eq_false_iff, decide_eq_false_iff_not]; omega
      rw [this]; rfl
    rw [hno, n.av_eq]
    refine c62 rfl n.kind n.str n.num n.flag _ n.pos H ?_
    unfold g62 jn
    simp only [fold_cs, fold_av]
    cases hp : parts n false false false with
    | false => simp -implicitDefEqProofs only [len_kv, bind_ok, s_parts, hp, un_not, Bool.not_false, cond_tt, gc_bool]
    | true =>
      simp -implicitDefEqProofs only [len_kv, bind_ok, s_parts, hp, un_not, Bool.not_true, cond_ff, beq_eq_false_iff_ne.2 (show n.kind ≠ 47 by omega), beq_eq_false_iff_ne.2 (show n.kind ≠ 48 by omega), beq_eq_false_iff_ne.2 (show n.kind ≠ 49 by omega), beq_eq_false_iff_ne.2 (show n.kind ≠ 50 by omega), beq_eq_false_iff_ne.2 (show n.kind ≠ 51 by omega), beq_eq_false_iff_ne.2 (show n.kind ≠ 52 by omega), beq_eq_false_iff_ne.2 (show n.kind ≠ 53 by omega), beq_eq_false_iff_ne.2 (show n.kind ≠ 54 by omega), beq_eq_false_iff_ne.2 (show n.kind ≠ 55 by omega), beq_eq_false_iff_ne.2 (show n.kind ≠ 56 by omega), List.getD_cons_zero, List.getD_cons_succ, bin_eql, gc_bool]
end Go.Proofs.YtnhblghplohonaaGreatDoor.Ab
/- Walks: the reference's Check: declarations; Check. -/
namespace Go.Proofs.YtnhblghplohonaaGreatDoor.Ab
open Go
variable {m : Int}

theorem locs_put_ne {L : Locs} {i j : Nat} {y : List AV} (h : i ≠ j) : Locs.find (Locs.put L j y) i = Locs.find L i := by
  rw [Locs.find_put, if_neg h]
/-- A loop that asks whether all are so, with local blocks of its own. -/
theorem all_loopL {α : Type} {B : LS → (LS → Out Ans) → Out Ans} {st : Nat → Locs → LS} {I : Locs → Prop} {l : List α} {p : α → Bool} {r0 r1 : Ans} (h0 : ∀ L, I L → ∀ k, B (st l.length L) k = .ok r1)
    (h1 : ∀ i (hi : i < l.length) L, I L → p l[i] = false → ∀ k, B (st i L) k = .ok r0) (h2 : ∀ i (hi : i < l.length) L, I L → p l[i] = true → ∃ L', I L' ∧ ∀ k, B (st i L) k = k (st (i + 1) L')) :
    ∀ i, i ≤ l.length → ∀ L, I L → loopW B (st i L) = .ok (if (l.drop i).all p then r1 else r0) := by
  have key : ∀ k i, i + k = l.length → ∀ L, I L → loopW B (st i L) = .ok (if (l.drop i).all p then r1 else r0) := by
    intro k
    induction k with
    | zero =>
      intro i h L hL
      obtain rfl : i = l.length := by omega
      rw [List.drop_length]
      exact loopW_done (h0 L hL)
    | succ k ih =>
      intro i h L hL
      have hi : i < l.length := by omega
      rw [List.drop_eq_getElem_cons hi, List.all_cons]
      cases hp : p l[i] with
      | false => exact loopW_done (h1 i hi L hL hp)
      | true =>
        obtain ⟨L', hL', hs⟩ := h2 i hi L hL hp
        exact loopW_step hs (by rw [Bool.true_and]; exact ih (i + 1) (by omega) L' hL')
  exact fun i hi => key (l.length - i) i (by omega)
def recR (n : Nd) : Bool := n.kind == 41 && mayP n
theorem s_record {n : Nd} (hs : n.sz < 1073741824) (H : Heap) : W m 24 [n.av] H = .ok (.bool (recR n), H) := by
  have hn := fit_of hs
  have hk := hn.k
  have hne : (n.kind != 41) = !(n.kind == 41) := rfl
  have a1 := fun H => s_name8 (m := m) (s := n.str) (by have := hn.s; omega) H
  have a2 := fun (x : Nd) (hx : x ∈ n.kids) H => s_vars (m := m) (n := x) (by have := Nd.sz_kid hx; omega) true H
  have hloop := all_loop (B := g24_l4 (W m) loopW H) (st := fun i => ([.int .i64 (i : Nat)], [(1, n.cs)], H.start)) (l := n.kids) (p := fun x => varsR x true) (H := H)
    (fun k => by
      unfold g24_l4
      simp -implicitDefEqProofs [Locs.find])
    (fun i hi hp k => by
      unfold g24_l4
      simp -implicitDefEqProofs [Locs.find, hi, index_kvn hi, a2 _ (List.getElem_mem hi), hp])
    (fun i hi hp k => by
      unfold g24_l4
      simp -implicitDefEqProofs [Locs.find, hi, index_kvn hi, a2 _ (List.getElem_mem hi), hp, wrap_i64 (x := (i : Int) + 1) (by omega) (by omega)])
  have h3 : loopW (g24_l4 (W m) loopW H) ([.int .i64 0], [(1, n.cs)], H.start) = .ok (.bool (n.kids.all fun x => varsR x true), H) := hloop 0 (by omega)
  have hm : recR n = (n.kind == 41 && parts n true false false && name n.str && n.kids.all fun x => varsR x true) := by
    unfold recR
    cases h : (n.kind == 41) with
    | false => simp
    | true =>
      have h' : n.kind = 41 := by simpa using h
      rw [mayP_eq]
      unfold itselfP declsP
      simp only [h', isE, isS, parts]
      simp only [Bool.true_and, Bool.false_or, Int.reduceLE, decide_true, decide_false, Int.reduceBEq, Bool.and_false, Bool.and_true, Bool.false_and, Bool.or_false, Bool.or_true, Bool.true_or, Int.reduceEq, if_false, if_true, Bool.false_eq_true, Bool.not_true, Bool.not_false]
      rw [show (fun x => varsR x true) = fun x => (x.kind == 42 && x.kids.all bareV) && mayP x from funext fun x => by
        unfold varsR; cases (x.kind == 42) <;> cases x.kids.all bareV <;> cases mayP x <;> rfl]
      rw [all_and n.kids (fun x => x.kind == 42 && x.kids.all bareV) mayP]
      simp only [Bool.and_comm, Bool.and_left_comm, Bool.and_assoc]
  rw [hm, n.av_eq]
  refine c24 rfl n.kind n.str n.num n.flag _ n.pos H ?_
  unfold g24
  simp only [fold_cs, fold_av]
  cases h1 : (n.kind == 41) <;> cases h2 : parts n true false false <;> cases h4 : name n.str <;> simp -implicitDefEqProofs only [hne, h1, h2, h4, a1, s_parts, Bool.not_true, Bool.not_false, guard_ff, guard_tf, bind_ok, un_not, pick_tt, pick_ff, cond_tt, cond_ff, gc_bool, Bool.and_true, Bool.and_false, Bool.false_and, Bool.true_and]
  exact h3
def parR (p : Nd) : Bool := p.kind == 46 && decide (p.num ≤ 1) && !(p.flag && p.num == 1) && name p.str && (match p.kids with | [x] => typedN x | _ => false)
theorem parR_eq (p : Nd) : parR p = (p.kind == 46 && mayP p) := by
  unfold parR
  cases h : (p.kind == 46) with
  | false => simp
  | true =>
    have h' : p.kind = 46 := by simpa using h
    rw [mayP_eq]
    unfold itselfP declsP
    simp only [h', isE, isS]
    simp only [Bool.true_and, Bool.false_or, Int.reduceLE, decide_true, decide_false, Int.reduceBEq, Bool.and_false, Bool.and_true, Bool.false_and, Bool.or_false, Bool.or_true, Bool.true_or, Int.reduceEq, if_false, if_true, Bool.false_eq_true, Bool.not_true, Bool.not_false]
    match hl : p.kids with
    | [] => simp [shape]
    | [x] =>
      simp [shape, zipAll, typedN_eq, isK]
      cases (x.kind == 16) <;> cases mayP x <;> cases name p.str <;> cases p.flag <;> cases (p.num == 1) <;> simp
    | x :: y :: r => simp [shape]
def funR (n : Nd) : Bool := n.kind == 45 && mayP n
theorem s_functionR {n : Nd} (hs : n.sz < 1073741824) (H : Heap) : W m 26 [n.av] H = .ok (.bool (funR n), H) := by
  have hn := fit_of hs
  have hk := hn.k
  have hne : (n.kind != 45) = !(n.kind == 45) := rfl
  have a1 := fun H => s_name8 (m := m) (s := n.str) (by have := hn.s; omega) H
  have hsk : ∀ x ∈ n.kids, x.sz < 1073741824 := fun x hx => by have := Nd.sz_kid hx; omega
  have a2 := fun (x : Nd) (hx : x ∈ n.kids) H => s_typedN (m := m) (n := x) (fit_of (hsk x hx)).s H
  have a3 := fun (x : Nd) (hx : x ∈ n.kids) H => s_block_of (m := m) (n := x) (hsk x hx) (fun y hy H => s_stR y (by have := Nd.sz_kid hy; have := hsk x hx; omega) H) H
  have hm : funR n = (n.kind == 45 && parts n true false false && name n.str && (match n.kids with | x :: y :: r => typedN x && (match (y :: r)[r.length]? with | some z => z.kind == 47 && mayP z | none => false) && ((y :: r).take r.length).all parR | _ => false)) := by
    unfold funR
    cases h : (n.kind == 45) with
    | false => simp
    | true =>
      have h' : n.kind = 45 := by simpa using h
      rw [mayP_eq]
      unfold itselfP declsP
      simp only [h', isE, isS, parts]
      simp only [Bool.true_and, Bool.false_or, Int.reduceLE, decide_true, decide_false, Int.reduceBEq, Bool.and_false, Bool.and_true, Bool.false_and, Bool.or_false, Bool.or_true, Bool.true_or, Int.reduceEq, if_false, if_true, Bool.false_eq_true, Bool.not_true, Bool.not_false]
      match hl : n.kids with
      | [] => simp [funK]
      | [x] => simp [funK]
      | x :: y :: r =>
        have hz : (y :: r)[r.length]? = some ((y :: r)[r.length]'(by simp)) := List.getElem?_eq_getElem _
        have hsplit : (y :: r).all mayP = (((y :: r).take r.length).all mayP && mayP ((y :: r)[r.length]'(by simp))) := by
          have : (y :: r) = (y :: r).take r.length ++ [(y :: r)[r.length]'(by simp)] := by
            conv => lhs; rw [← List.take_append_drop r.length (y :: r)]
            rw [List.drop_eq_getElem_cons (by simp), List.drop_eq_nil_of_le (by simp)]
          conv => lhs; rw [this]
          rw [List.all_append]; simp
        simp only [funK, hz]
        rw [List.all_cons (a := x), hsplit, typedN_eq, show parR = fun p => (isK 46 p) && mayP p from funext parR_eq, all_and]
        generalize ((y :: r).take r.length).all (isK 46) = A
        generalize ((y :: r).take r.length).all mayP = B
        generalize (y :: r)[r.length]'(by simp) = z
        cases (x.kind == 16) <;> cases (z.kind == 47) <;> cases mayP x <;> cases mayP z <;> cases A <;> cases B <;> cases name n.str <;> cases (n.num == 0) <;> cases n.flag <;> rfl
  rw [hm]
  cases h0 : (n.kind == 45 && parts n true false false && name n.str) with
  | false =>
    rw [n.av_eq]
    refine c26 rfl n.kind n.str n.num n.flag _ n.pos H ?_
    unfold g26
    simp only [fold_cs, fold_av]
    cases h1 : (n.kind == 45) <;> cases h2 : parts n true false false <;> cases h4 : name n.str <;> simp only [h1, h2, h4, Bool.and_true, Bool.true_and, Bool.and_false, Bool.false_and, Bool.true_eq_false] at h0 <;> simp -implicitDefEqProofs only [hne, h1, h2, h4, a1, s_parts, Bool.not_true, Bool.not_false, guard_ff, guard_tf, bind_ok, un_not, pick_tt, pick_ff, cond_tt, cond_ff, gc_bool, Bool.and_true, Bool.and_false, Bool.false_and, Bool.true_and, len_kv, bin_sub]
  | true =>
    simp only [Bool.and_eq_true] at h0
    obtain ⟨⟨h1, h2⟩, h4⟩ := h0
    rw [Bool.true_and]
    rw [n.av_eq]
    refine c26 rfl n.kind n.str n.num n.flag _ n.pos H ?_
    unfold g26
    simp only [fold_cs, fold_av]
    simp -implicitDefEqProofs only [hne, h1, h2, h4, a1, s_parts, Bool.not_true, Bool.not_false, guard_ff, guard_tf, bind_ok, un_not, pick_tt, pick_ff, cond_tt, cond_ff, gc_bool, len_kv, bin_sub]
    match hl : n.kids with
    | [] => simp -implicitDefEqProofs [wrap_i64 (x := -1) (by omega) (by omega)]
    | [x] => simp -implicitDefEqProofs [wrap_i64 (x := 0) (by omega) (by omega)]
    | x :: y :: r =>
      have hk' : r.length + 2 < 1099511627776 := by rw [hl] at hk; simp at hk; omega
      have w1 : IntKind.wrap .i64 ((r.length : Int) + 1) = (r.length : Int) + 1 := wrap_i64 (by omega) (by omega)
      have hge : decide ((r.length : Int) + 1 < 1) = false := decide_eq_false (by omega)
      have hz : (y :: r)[r.length]? = some ((y :: r)[r.length]'(by simp)) := List.getElem?_eq_getElem _
      have hzm : (y :: r)[r.length]'(by simp) ∈ n.kids := by rw [hl]; exact List.mem_cons_of_mem _ (List.getElem_mem _)
      have i1 : M.indexSl 6 (kv n.nil (x :: y :: r)) (.int .i64 ((r.length : Int) + 1)) = .ok (.iptr ((y :: r)[r.length]'(by simp)).cs) := by
        refine index_kv (by omega) ?_
        rw [show ((r.length : Int) + 1).toNat = r.length + 1 by omega, List.getElem?_cons_succ]; exact hz
      have t1 := a2 x (by rw [hl]; simp)
      have t2 := a3 _ hzm
      have hL := all_loopL (B := g26_l5 (W m) loopW H) (st := fun i L => ([.int .i64 ((r.length : Int) + 1), .int .i64 (i : Nat)], L, H.start)) (I := fun L => L.find 1 = some n.cs) (l := n.kids.take (r.length + 1)) (p := parR) (r0 := (.bool false, H)) (r1 := (.bool true, H))
        (fun L hL k => by
          unfold g26_l5
          have : decide ((((n.kids.take (r.length + 1)).length : Nat) : Int) < (r.length : Int) + 1) = false := decide_eq_false (by simp [hl])
          simp -implicitDefEqProofs only [List.getD_cons_zero, List.getD_cons_succ, bin_lss, bind_ok, this, cond_ff, gc_bool])
        (fun i hi L hL hp k => by
          have hi' : i < r.length + 1 := by simp at hi; omega
          have hi2 : i < n.kids.length := by rw [hl]; simp; omega
          have hlt : decide ((i : Int) < (r.length : Int) + 1) = true := decide_eq_true (by omega)
          rw [List.getElem_take] at hp
          have b1 := fun H => s_name8 (m := m) (s := n.kids[i].str) (by have := (fit_of (hsk _ (List.getElem_mem hi2))).s; omega) H
          have hz' : M.stc 6 [.int .i64 0, .str [], .int .u32 0, .bool false, nilSlice, .int .i64 0] 0 n.kids[i].av = .ok n.kids[i].cs := stc_av6 ..
          unfold g26_l5
          simp -implicitDefEqProofs only [List.getD_cons_zero, List.getD_cons_succ, bin_lss, bind_ok, hlt, cond_tt, hL, onO_some, ldc_cs4, index_kvn hi2, load_cs, locs_put, hz', ldc_cs0, ldc_cs, ldc_cs2, ldc_cs3, ldc_cs1]
          have hpt : parts n.kids[i] true true true = true := by simp [parts]
          cases q1 : (n.kids[i].kind == 46) with
          | false => simp -implicitDefEqProofs [show (n.kids[i].kind != 46) = true by simp [bne, q1]]
          | true =>
            rw [parR, q1, Bool.true_and] at hp
            cases q2 : decide (n.kids[i].num ≤ 1) with
            | false =>
              have q2' : decide (n.kids[i].num > 1) = true := by simp at q2 ⊢; omega
              simp -implicitDefEqProofs [show (n.kids[i].kind != 46) = false by simp [bne, q1], s_parts, hpt, show (1 : Int) < n.kids[i].num by simpa using q2]
            | true =>
              have q2' : ¬ (1 : Int) < n.kids[i].num := by simp at q2; omega
              rw [q2, Bool.true_and] at hp
              cases q3 : (n.kids[i].flag && n.kids[i].num == 1) with
              | true =>
                simp only [Bool.and_eq_true] at q3
                simp -implicitDefEqProofs [show (n.kids[i].kind != 46) = false by simp [bne, q1], s_parts, hpt, q2', q3.1, q3.2]
              | false =>
                rw [q3] at hp
                simp only [Bool.not_false, Bool.true_and] at hp
                have hfl : ∀ {β : Type} (F : Bool → β) , True := fun _ => trivial
                cases q4 : name n.kids[i].str with
                | false =>
                  cases q5 : n.kids[i].flag <;> cases q6 : (n.kids[i].num == 1) <;> simp only [q5, q6, Bool.and_true, Bool.true_and, Bool.and_false, Bool.false_and, Bool.true_eq_false] at q3 <;> simp -implicitDefEqProofs [show (n.kids[i].kind != 46) = false by simp [bne, q1], s_parts, hpt, q2', q5, q6, b1, q4]
                | true =>
                  rw [q4, Bool.true_and] at hp
                  match hkk : n.kids[i].kids with
                  | [] => cases q5 : n.kids[i].flag <;> cases q6 : (n.kids[i].num == 1) <;> simp only [q5, q6, Bool.and_true, Bool.true_and, Bool.and_false, Bool.false_and, Bool.true_eq_false] at q3 <;> simp -implicitDefEqProofs [show (n.kids[i].kind != 46) = false by simp [bne, q1], s_parts, hpt, q2', q5, q6, b1, q4, hkk]
                  | [z] =>
                    rw [hkk] at hp
                    have tz := fun H => s_typedN (m := m) (n := z) (fit_of (by have := Nd.sz_kid (n := n.kids[i]) (x := z) (by rw [hkk]; simp); have := hsk _ (List.getElem_mem hi2); omega)).s H
                    cases q5 : n.kids[i].flag <;> cases q6 : (n.kids[i].num == 1) <;> simp only [q5, q6, Bool.and_true, Bool.true_and, Bool.and_false, Bool.false_and, Bool.true_eq_false] at q3 <;> simp -implicitDefEqProofs [show (n.kids[i].kind != 46) = false by simp [bne, q1], s_parts, hpt, q2', q5, q6, b1, q4, hkk, tz, hp]
                  | z :: u :: rr =>
                    have e1 : ((rr.length : Int) + 1 + 1 != 1) = true := by simp; omega
                    cases q5 : n.kids[i].flag <;> cases q6 : (n.kids[i].num == 1) <;> simp only [q5, q6, Bool.and_true, Bool.true_and, Bool.and_false, Bool.false_and, Bool.true_eq_false] at q3 <;> simp -implicitDefEqProofs [show (n.kids[i].kind != 46) = false by simp [bne, q1], s_parts, hpt, q2', q5, q6, b1, q4, hkk, e1])
        (fun i hi L hL hp => by
          have hi' : i < r.length + 1 := by simp at hi; omega
          have hi2 : i < n.kids.length := by rw [hl]; simp; omega
          have hlt : decide ((i : Int) < (r.length : Int) + 1) = true := decide_eq_true (by omega)
          rw [List.getElem_take] at hp
          have b1 := fun H => s_name8 (m := m) (s := n.kids[i].str) (by have := (fit_of (hsk _ (List.getElem_mem hi2))).s; omega) H
          have hz' : M.stc 6 [.int .i64 0, .str [], .int .u32 0, .bool false, nilSlice, .int .i64 0] 0 n.kids[i].av = .ok n.kids[i].cs := stc_av6 ..
          refine ⟨Locs.put (Locs.put L 5 [.int .i64 0, .str [], .int .u32 0, .bool false, nilSlice, .int .i64 0]) 5 n.kids[i].cs, by rw [locs_put_ne (by decide), locs_put_ne (by decide)]; exact hL, fun k => ?_⟩
          unfold g26_l5
          simp -implicitDefEqProofs only [List.getD_cons_zero, List.getD_cons_succ, bin_lss, bind_ok, hlt, cond_tt, hL, onO_some, ldc_cs4, index_kvn hi2, load_cs, locs_put, hz', ldc_cs0, ldc_cs, ldc_cs2, ldc_cs3, ldc_cs1]
          have hpt : parts n.kids[i] true true true = true := by simp [parts]
          unfold parR at hp
          simp only [Bool.and_eq_true, Bool.not_eq_true'] at hp
          obtain ⟨⟨⟨⟨q1, q2⟩, q3⟩, q4⟩, hp⟩ := hp
          have q2' : ¬ (1 : Int) < n.kids[i].num := by simp at q2; omega
          match hkk : n.kids[i].kids with
          | [] => rw [hkk] at hp; cases hp
          | [z] =>
            rw [hkk] at hp
            have tz := fun H => s_typedN (m := m) (n := z) (fit_of (by have := Nd.sz_kid (n := n.kids[i]) (x := z) (by rw [hkk]; simp); have := hsk _ (List.getElem_mem hi2); omega)).s H
            have hp : typedN z = true := hp
            cases q5 : n.kids[i].flag <;> cases q6 : (n.kids[i].num == 1) <;> simp only [q5, q6, Bool.and_true, Bool.true_and, Bool.and_false, Bool.false_and, Bool.true_eq_false] at q3 <;> simp -implicitDefEqProofs [show (n.kids[i].kind != 46) = false by simp [bne, q1], s_parts, hpt, q2', q5, q6, b1, q4, hkk, tz, hp, wrap_i64 (x := (i : Int) + 1) (by omega) (by omega)]
          | z :: u :: rr => rw [hkk] at hp; cases hp)
        1 (by simp [hl]) [(1, n.cs)] rfl
      have hL2 : loopW (g26_l5 (W m) loopW H) ([.int .i64 ((r.length : Int) + 1), .int .i64 1], [(1, n.cs)], H.start) = .ok (.bool (((y :: r).take r.length).all parR), H) := by
        refine hL.trans ?_
        rw [hl]
        simp only [List.take_succ_cons, List.drop_succ_cons, List.drop_zero]
        cases ((y :: r).take r.length).all parR <;> rfl
      cases q1 : typedN x with
      | false => simp -implicitDefEqProofs [w1, hge, t1, q1]
      | true =>
        cases q2 : (((y :: r)[r.length]'(by simp)).kind == 47 && mayP ((y :: r)[r.length]'(by simp))) with
        | false => simp -implicitDefEqProofs only [List.length_cons, Int.natCast_add, Int.natCast_one, Int.add_sub_cancel, w1, bin_lss, bind_ok, hge, index_kv0, load_cs, t1, q1, un_not, Bool.not_true, Bool.not_false, guard_ff, guard_tf, pick_ff, pick_tt, i1, t2, q2, cond_tt, gc_bool, hz, Bool.and_false, Bool.false_and]
        | true =>
          simp -implicitDefEqProofs only [List.length_cons, Int.natCast_add, Int.natCast_one, Int.add_sub_cancel, w1, bin_lss, bind_ok, hge, index_kv0, load_cs, t1, q1, un_not, Bool.not_true, Bool.not_false, guard_ff, guard_tf, pick_ff, pick_tt, i1, t2, q2, cond_ff, hz, Bool.true_and]
          exact hL2
end Go.Proofs.YtnhblghplohonaaGreatDoor.Ab
/- Walks: the reference's Check says what the program's says. -/
namespace Go.Proofs.YtnhblghplohonaaGreatDoor.Ab
open Go
variable {m : Int}

theorem s_checkR {n : Nd} (hs : n.sz < 1073741824) (H : Heap) : W m 15 [n.av] H = .ok (.int .i64 (if checkP n then 0 else 80), H) := by
  have hn := fit_of hs
  have hk := hn.k
  have hne : (n.kind != 40) = !(n.kind == 40) := rfl
  have hsk : ∀ x ∈ n.kids, x.sz < 1073741824 := fun x hx => by have := Nd.sz_kid hx; omega
  have a1 := fun H => s_size8 (m := m) hs H
  have a2 := fun (x : Nd) (hx : x ∈ n.kids) H => s_record (m := m) (hsk x hx) H
  have a3 := fun (x : Nd) (hx : x ∈ n.kids) H => s_vars (m := m) (hsk x hx) false H
  have a4 := fun (x : Nd) (hx : x ∈ n.kids) H => s_functionR (m := m) (hsk x hx) H
  have hb : ((sizeP n : Int) == 0) = (sizeP n == 0) := by rw [Bool.eq_iff_iff]; simp
  have hm : checkP n = (!(sizeP n == 0) && (n.kind == 40) && parts n false false false && n.kids.all fun x => recR x || varsR x false || funR x) := by
    unfold checkP
    cases h : (n.kind == 40) with
    | false => simp
    | true =>
      have h' : n.kind = 40 := by simpa using h
      rw [mayP_eq]
      unfold itselfP declsP
      simp only [h', isE, isS, parts]
      simp only [Bool.true_and, Bool.false_or, Int.reduceLE, decide_true, decide_false, Int.reduceBEq, Bool.and_false, Bool.and_true, Bool.false_and, Bool.or_false, Bool.or_true, Bool.true_or, Int.reduceEq, if_false, if_true, Bool.false_eq_true, Bool.not_true, Bool.not_false]
      rw [show (fun x => recR x || varsR x false || funR x) = fun x => (x.kind == 41 || x.kind == 42 || x.kind == 45) && mayP x from funext fun x => by
        unfold recR varsR funR; cases (x.kind == 41) <;> cases (x.kind == 42) <;> cases (x.kind == 45) <;> cases mayP x <;> rfl]
      rw [all_and n.kids (fun x => x.kind == 41 || x.kind == 42 || x.kind == 45) mayP]
      simp only [Bool.and_comm, Bool.and_left_comm, Bool.and_assoc]
  have hL := all_loopL (B := g15_l4 (W m) loopW H) (st := fun i L => ([.int .i64 (i : Nat)], L, H.start)) (I := fun L => L.find 1 = some n.cs) (l := n.kids) (p := fun x => recR x || varsR x false || funR x) (r0 := (.int .i64 80, H)) (r1 := (.int .i64 0, H))
    (fun L hL k => by
      unfold g15_l4
      simp -implicitDefEqProofs [hL])
    (fun i hi L hL hp k => by
      have hz' : M.stc 6 [.int .i64 0, .str [], .int .u32 0, .bool false, nilSlice, .int .i64 0] 0 n.kids[i].av = .ok n.kids[i].cs := stc_av6 ..
      simp only [Bool.or_eq_false_iff] at hp
      unfold g15_l4
      simp -implicitDefEqProofs [hL, hi, index_kvn hi, hz', a2 _ (List.getElem_mem hi), a3 _ (List.getElem_mem hi), a4 _ (List.getElem_mem hi), hp.1.1, hp.1.2, hp.2])
    (fun i hi L hL hp => by
      have hz' : M.stc 6 [.int .i64 0, .str [], .int .u32 0, .bool false, nilSlice, .int .i64 0] 0 n.kids[i].av = .ok n.kids[i].cs := stc_av6 ..
      refine ⟨Locs.put (Locs.put L 4 [.int .i64 0, .str [], .int .u32 0, .bool false, nilSlice, .int .i64 0]) 4 n.kids[i].cs, by rw [locs_put_ne (by decide), locs_put_ne (by decide)]; exact hL, fun k => ?_⟩
      unfold g15_l4
      cases q1 : recR n.kids[i] <;> cases q2 : varsR n.kids[i] false <;> cases q3 : funR n.kids[i] <;> simp only [q1, q2, q3, Bool.or_true, Bool.or_false, Bool.true_or, Bool.false_eq_true] at hp <;> simp -implicitDefEqProofs [hL, hi, index_kvn hi, hz', a2 _ (List.getElem_mem hi), a3 _ (List.getElem_mem hi), a4 _ (List.getElem_mem hi), q1, q2, q3, wrap_i64 (x := (i : Int) + 1) (by omega) (by omega)])
    0 (by omega) [(1, n.cs)] rfl
  rw [List.drop_zero] at hL
  have hL : loopW (g15_l4 (W m) loopW H) ([.int .i64 0], [(1, n.cs)], H.start) = _ := hL
  rw [hm, n.av_eq]
  refine c15 rfl n.kind n.str n.num n.flag _ n.pos H ?_
  unfold g15
  simp only [fold_cs, fold_av]
  cases h1 : (sizeP n == 0) <;> cases h2 : (n.kind == 40) <;> cases h3 : parts n false false false <;> simp -implicitDefEqProofs only [a1, hb, hne, h1, h2, h3, s_parts, Bool.not_true, Bool.not_false, guard_ff, guard_tf, bind_ok, un_not, pick_tt, pick_ff, cond_tt, cond_ff, gc_int, bin_eql, bin_neq, Bool.and_true, Bool.and_false, Bool.false_and, Bool.true_and, Bool.false_eq_true, if_false]
  refine hL.trans ?_
  cases n.kids.all fun x => recR x || varsR x false || funR x <;> rfl
end Go.Proofs.YtnhblghplohonaaGreatDoor.Ab
