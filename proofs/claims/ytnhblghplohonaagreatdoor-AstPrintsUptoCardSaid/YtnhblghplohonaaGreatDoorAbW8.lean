/- Walks: the printer's lines, Print. -/
import Derived.Test.YtnhblghplohonaaGreatDoorAbW7
set_option linter.unusedSimpArgs false
set_option linter.unusedVariables false
namespace Go.Proofs.YtnhblghplohonaaGreatDoor.Ab
open Go
variable {m : Int}

theorem s_line : ∀ (k : Nat) (n : Nd), n.sz ≤ k → n.sz < 67108864 → okL n = true → numB n = true → LX m n := by
  intro k
  induction k with
  | zero => intro n hk; have := n.sz_pos; omega
  | succ k ih =>
    intro n hk hs ho hn lo p H t h hc
    have hf := fit_of (n := n) (by omega)
    have hnp := numB_parts hn
    have hB := buf_like lo p
    have h0 := St.init hB h
    have kl : ∀ x ∈ n.kids, okL x = true → LX m x := fun x hx hox => ih x (by have := Nd.sz_kid hx; omega) (by have := Nd.sz_kid hx; omega) hox (hnp.2.2 x hx)
    have ke : ∀ x ∈ n.kids, okE x = true → PE m x := fun x hx hox => PE_of (by have := Nd.sz_kid hx; omega) hox (hnp.2.2 x hx)
    have hkinds : (47 ≤ n.kind ∧ n.kind ≤ 56) ∨ n.kind = 41 ∨ n.kind = 42 ∨ n.kind = 45 := by
      unfold okL at ho
      rw [isS_range] at ho
      simp only [Bool.and_eq_true, Bool.or_eq_true, decide_eq_true_eq, beq_iff_eq] at ho
      omega
    have hcall : Res p (PB lo p) H (t ++ ln n) (g22 (W m) loopW (.ref p 0) n.kind n.str n.num n.flag (kv n.nil n.kids) n.pos H) → Res p (PB lo p) H (t ++ ln n) (W m 22 [.ref p 0, n.av] H) := fun hu => by
      rw [n.av_eq]; exact Res.call (fun r hr => c22 rfl _ n.kind n.str n.num n.flag _ n.pos H hr) hu
    refine hcall ?_
    rcases (by omega : n.kind = 49 ∨ n.kind = 50 ∨ n.kind = 52 ∨ n.kind = 51 ∨ n.kind = 41 ∨ n.kind = 42 ∨ n.kind = 45 ∨ n.kind = 47 ∨ (n.kind = 48 ∨ n.kind = 53 ∨ n.kind = 54 ∨ n.kind = 55 ∨ n.kind = 56)) with hq | hq | hq | hq | hq | hq | hq | hq | hq
    · -- if
      obtain ⟨h1, h2⟩ := okL_S ho (by omega)
      unfold statsP at h1
      simp only [Bool.and_eq_true, hq, Int.reduceEq, if_false, if_true, Bool.or_eq_true] at h1
      rcases h1.2 with h3 | h3
      · unfold shape at h3
        simp only [Bool.and_eq_true, decide_eq_true_eq] at h3
        obtain ⟨c, a, hl⟩ := len2 h3.1
        rw [hl] at h3 h2
        simp only [zipAll, Bool.and_eq_true, Bool.and_true] at h3
        have pc := ke c (by rw [hl]; simp) (okE_kid (h2 c (by simp)) h3.2.1)
        have la := kl a (by rw [hl]; simp) (okL_kid (h2 a (by simp)) h3.2.2)
        rw [ln_49 hq hl] at hc ⊢
        simp only [List.length_append, List.length_cons, List.length_nil] at hc
        unfold g22 jn
        simp -implicitDefEqProofs only [fold_cs, fold_av]
        simp -implicitDefEqProofs only [hq, hl, fold_cs, fold_av, bind_ok, onO_some, Locs.find, beq_self_eq_true, if_true, Nat.reduceBEq, Bool.false_eq_true, if_false, ldc_cs, ldc_cs0, ldc_cs1, ldc_cs2, ldc_cs3, ldc_cs4, index_kv0, index_kv1, index_kv2, index_kv3, load_cs, load_cs0, load_cs0', load_cs1, load_cs2, load_cs3, load_cs4, fa_iptr, List.getD_cons_zero, List.getD_cons_succ, cond_tt, cond_ff, fill1, fill2, fill3, fill4, chunks1, chunks2, chunks3, chunks4, nil_ref, fa_ref, Nat.add_zero, stc_av6, bin_eql, Int.reduceBEq]
        refine Res.bind h0 (s_head pc [105, 102] [10] h.start (by simp; omega)) fun H1 s1 => ?_
        simp -implicitDefEqProofs only [hl, bind_ok, onO_some, Locs.find, beq_self_eq_true, if_true, Nat.reduceBEq, Bool.false_eq_true, if_false, ldc_cs, ldc_cs0, ldc_cs1, ldc_cs2, ldc_cs3, ldc_cs4, index_kv0, index_kv1, index_kv2, index_kv3, load_cs, load_cs0, load_cs0', load_cs1, load_cs2, load_cs3, load_cs4, fa_iptr, List.getD_cons_zero, List.getD_cons_succ, cond_tt, cond_ff, fill1, fill2, fill3, fill4, chunks1, chunks2, chunks3, chunks4, nil_ref, fa_ref, Nat.add_zero, stc_av6, bin_eql, Int.reduceBEq]
        refine Res.bind s1 (la lo p H1 _ s1.b (by simp; omega)) fun H2 s2 => ?_
        have e1 : decide ((([c, a] : List Nd).length : Int) > 2) = false := rfl
        simp -implicitDefEqProofs only [hl, len_kv, bin_gtr, e1, bind_ok, onO_some, Locs.find, beq_self_eq_true, if_true, Nat.reduceBEq, Bool.false_eq_true, if_false, ldc_cs, ldc_cs0, ldc_cs1, ldc_cs2, ldc_cs3, ldc_cs4, index_kv0, index_kv1, index_kv2, index_kv3, load_cs, load_cs0, load_cs0', load_cs1, load_cs2, load_cs3, load_cs4, fa_iptr, List.getD_cons_zero, List.getD_cons_succ, cond_tt, cond_ff, fill1, fill2, fill3, fill4, chunks1, chunks2, chunks3, chunks4, nil_ref, fa_ref, Nat.add_zero, stc_av6, bin_eql, Int.reduceBEq]
        exact Res.fin' hB h s2 (by simp)
      · have h3 := h3.1
        unfold shape at h3
        simp only [Bool.and_eq_true, decide_eq_true_eq] at h3
        obtain ⟨c, a, b, hl⟩ : ∃ c a b, n.kids = [c, a, b] := by
          match hl : n.kids, h3.1 with
          | [c, a, b], _ => exact ⟨c, a, b, rfl⟩
        rw [hl] at h3 h2
        simp only [zipAll, Bool.and_eq_true, Bool.and_true] at h3
        have pc := ke c (by rw [hl]; simp) (okE_kid (h2 c (by simp)) h3.2.1)
        have la := kl a (by rw [hl]; simp) (okL_kid (h2 a (by simp)) h3.2.2.1)
        have lb := kl b (by rw [hl]; simp) (okL_kid (h2 b (by simp)) h3.2.2.2)
        rw [ln_49' hq hl] at hc ⊢
        simp only [List.length_append, List.length_cons, List.length_nil] at hc
        unfold g22 jn
        simp -implicitDefEqProofs only [fold_cs, fold_av]
        simp -implicitDefEqProofs only [hq, hl, fold_cs, fold_av, bind_ok, onO_some, Locs.find, beq_self_eq_true, if_true, Nat.reduceBEq, Bool.false_eq_true, if_false, ldc_cs, ldc_cs0, ldc_cs1, ldc_cs2, ldc_cs3, ldc_cs4, index_kv0, index_kv1, index_kv2, index_kv3, load_cs, load_cs0, load_cs0', load_cs1, load_cs2, load_cs3, load_cs4, fa_iptr, List.getD_cons_zero, List.getD_cons_succ, cond_tt, cond_ff, fill1, fill2, fill3, fill4, chunks1, chunks2, chunks3, chunks4, nil_ref, fa_ref, Nat.add_zero, stc_av6, bin_eql, Int.reduceBEq]
        refine Res.bind h0 (s_head pc [105, 102] [10] h.start (by simp; omega)) fun H1 s1 => ?_
        simp -implicitDefEqProofs only [hl, bind_ok, onO_some, Locs.find, beq_self_eq_true, if_true, Nat.reduceBEq, Bool.false_eq_true, if_false, ldc_cs, ldc_cs0, ldc_cs1, ldc_cs2, ldc_cs3, ldc_cs4, index_kv0, index_kv1, index_kv2, index_kv3, load_cs, load_cs0, load_cs0', load_cs1, load_cs2, load_cs3, load_cs4, fa_iptr, List.getD_cons_zero, List.getD_cons_succ, cond_tt, cond_ff, fill1, fill2, fill3, fill4, chunks1, chunks2, chunks3, chunks4, nil_ref, fa_ref, Nat.add_zero, stc_av6, bin_eql, Int.reduceBEq]
        refine Res.bind s1 (la lo p H1 _ s1.b (by simp; omega)) fun H2 s2 => ?_
        have e1 : decide ((([c, a, b] : List Nd).length : Int) > 2) = true := rfl
        simp -implicitDefEqProofs only [hl, len_kv, bin_gtr, e1, bind_ok, onO_some, Locs.find, beq_self_eq_true, if_true, Nat.reduceBEq, Bool.false_eq_true, if_false, ldc_cs, ldc_cs0, ldc_cs1, ldc_cs2, ldc_cs3, ldc_cs4, index_kv0, index_kv1, index_kv2, index_kv3, load_cs, load_cs0, load_cs0', load_cs1, load_cs2, load_cs3, load_cs4, fa_iptr, List.getD_cons_zero, List.getD_cons_succ, cond_tt, cond_ff, fill1, fill2, fill3, fill4, chunks1, chunks2, chunks3, chunks4, nil_ref, fa_ref, Nat.add_zero, stc_av6, bin_eql, Int.reduceBEq]
        refine Res.bind s2 (put1 [101, 108, 115, 101, 10] s2.b (by simp; omega)) fun H3 s3 => ?_
        simp -implicitDefEqProofs only [hl, bind_ok, onO_some, Locs.find, beq_self_eq_true, if_true, Nat.reduceBEq, Bool.false_eq_true, if_false, ldc_cs, ldc_cs0, ldc_cs1, ldc_cs2, ldc_cs3, ldc_cs4, index_kv0, index_kv1, index_kv2, index_kv3, load_cs, load_cs0, load_cs0', load_cs1, load_cs2, load_cs3, load_cs4, fa_iptr, List.getD_cons_zero, List.getD_cons_succ, cond_tt, cond_ff, fill1, fill2, fill3, fill4, chunks1, chunks2, chunks3, chunks4, nil_ref, fa_ref, Nat.add_zero, stc_av6, bin_eql, Int.reduceBEq]
        refine Res.bind s3 (lb lo p H3 _ s3.b (by simp; omega)) fun H4 s4 => ?_
        exact Res.fin' hB h s4 (by simp)
    · -- while
      obtain ⟨h1, h2⟩ := okL_S ho (by omega)
      unfold statsP at h1
      simp only [Bool.and_eq_true, hq, Int.reduceEq, if_false, if_true] at h1
      have h3 := h1.2
      unfold shape at h3
      simp only [Bool.and_eq_true, decide_eq_true_eq] at h3
      obtain ⟨c, a, hl⟩ := len2 h3.1
      rw [hl] at h3 h2
      simp only [zipAll, Bool.and_eq_true, Bool.and_true] at h3
      have pc := ke c (by rw [hl]; simp) (okE_kid (h2 c (by simp)) h3.2.1)
      have la := kl a (by rw [hl]; simp) (okL_kid (h2 a (by simp)) h3.2.2)
      rw [ln_50 hq hl] at hc ⊢
      simp only [List.length_append, List.length_cons, List.length_nil] at hc
      unfold g22 jn
      simp -implicitDefEqProofs only [fold_cs, fold_av]
      simp -implicitDefEqProofs only [hq, hl, fold_cs, fold_av, bind_ok, onO_some, Locs.find, beq_self_eq_true, if_true, Nat.reduceBEq, Bool.false_eq_true, if_false, ldc_cs, ldc_cs0, ldc_cs1, ldc_cs2, ldc_cs3, ldc_cs4, index_kv0, index_kv1, index_kv2, index_kv3, load_cs, load_cs0, load_cs0', load_cs1, load_cs2, load_cs3, load_cs4, fa_iptr, List.getD_cons_zero, List.getD_cons_succ, cond_tt, cond_ff, fill1, fill2, fill3, fill4, chunks1, chunks2, chunks3, chunks4, nil_ref, fa_ref, Nat.add_zero, stc_av6, bin_eql, Int.reduceBEq]
      refine Res.bind h0 (s_head pc [119, 104, 105, 108, 101] [10] h.start (by simp; omega)) fun H1 s1 => ?_
      simp -implicitDefEqProofs only [hl, bind_ok, onO_some, Locs.find, beq_self_eq_true, if_true, Nat.reduceBEq, Bool.false_eq_true, if_false, ldc_cs, ldc_cs0, ldc_cs1, ldc_cs2, ldc_cs3, ldc_cs4, index_kv0, index_kv1, index_kv2, index_kv3, load_cs, load_cs0, load_cs0', load_cs1, load_cs2, load_cs3, load_cs4, fa_iptr, List.getD_cons_zero, List.getD_cons_succ, cond_tt, cond_ff, fill1, fill2, fill3, fill4, chunks1, chunks2, chunks3, chunks4, nil_ref, fa_ref, Nat.add_zero, stc_av6, bin_eql, Int.reduceBEq]
      refine Res.bind s1 (la lo p H1 _ s1.b (by simp; omega)) fun H2 s2 => ?_
      exact Res.fin' hB h s2 (by simp)
    · -- for
      obtain ⟨h1, h2⟩ := okL_S ho (by omega)
      unfold statsP at h1
      simp only [Bool.and_eq_true, hq, Int.reduceEq, if_false, if_true] at h1
      have h3 := h1.2
      unfold shape at h3
      simp only [Bool.and_eq_true, decide_eq_true_eq] at h3
      obtain ⟨a, b, c, d, hl⟩ : ∃ a b c d, n.kids = [a, b, c, d] := by
        match hl : n.kids, h3.1 with
        | [a, b, c, d], _ => exact ⟨a, b, c, d, rfl⟩
      rw [hl] at h3 h2
      simp only [zipAll, Bool.and_eq_true, Bool.and_true] at h3
      have pq : ∀ x ∈ n.kids, isQ x = true → mayP x = true → x.kind = 56 ∨ (x.kind ≠ 56 ∧ PE m x) := fun x hx hqx hm => by
        by_cases h56 : x.kind = 56
        · exact .inl h56
        · exact .inr ⟨h56, ke x hx ((okQ_kid hm hqx).resolve_left h56)⟩
      have ld := kl d (by rw [hl]; simp) (okL_kid (h2 d (by simp)) h3.2.2.2.2)
      have hln := ln_52 hq hl
      rw [hln] at hc ⊢
      unfold g22 jn
      simp -implicitDefEqProofs only [fold_cs, fold_av]
      simp -implicitDefEqProofs only [hq, fold_cs, fold_av, bind_ok, onO_some, Locs.find, beq_self_eq_true, if_true, Nat.reduceBEq, Bool.false_eq_true, if_false, ldc_cs, ldc_cs0, ldc_cs1, ldc_cs2, ldc_cs3, ldc_cs4, index_kv0, index_kv1, index_kv2, index_kv3, load_cs, load_cs0, load_cs0', load_cs1, load_cs2, load_cs3, load_cs4, fa_iptr, List.getD_cons_zero, List.getD_cons_succ, cond_tt, cond_ff, fill1, fill2, fill3, fill4, chunks1, chunks2, chunks3, chunks4, nil_ref, fa_ref, Nat.add_zero, stc_av6, bin_eql, Int.reduceBEq]
      refine Res.bind h0 (s_fors hl (pq a (by rw [hl]; simp) h3.2.1 (h2 a (by simp))) (pq b (by rw [hl]; simp) h3.2.2.1 (h2 b (by simp))) (pq c (by rw [hl]; simp) h3.2.2.2.1 (h2 c (by simp))) ld h.start hc) fun H1 s1 => ?_
      exact Res.fin' hB h s1 rfl
    · -- do
      obtain ⟨h1, h2⟩ := okL_S ho (by omega)
      unfold statsP at h1
      simp only [Bool.and_eq_true, hq, Int.reduceEq, if_false, if_true] at h1
      have h3 := h1.2
      unfold shape at h3
      simp only [Bool.and_eq_true, decide_eq_true_eq] at h3
      obtain ⟨a, c, hl⟩ := len2 h3.1
      rw [hl] at h3 h2
      simp only [zipAll, Bool.and_eq_true, Bool.and_true] at h3
      have pc := ke c (by rw [hl]; simp) (okE_kid (h2 c (by simp)) h3.2.2)
      have la := kl a (by rw [hl]; simp) (okL_kid (h2 a (by simp)) h3.2.1)
      rw [ln_51 hq hl] at hc ⊢
      simp only [List.length_append, List.length_cons, List.length_nil] at hc
      unfold g22 jn
      simp -implicitDefEqProofs only [fold_cs, fold_av]
      simp -implicitDefEqProofs only [hq, hl, fold_cs, fold_av, bind_ok, onO_some, Locs.find, beq_self_eq_true, if_true, Nat.reduceBEq, Bool.false_eq_true, if_false, ldc_cs, ldc_cs0, ldc_cs1, ldc_cs2, ldc_cs3, ldc_cs4, index_kv0, index_kv1, index_kv2, index_kv3, load_cs, load_cs0, load_cs0', load_cs1, load_cs2, load_cs3, load_cs4, fa_iptr, List.getD_cons_zero, List.getD_cons_succ, cond_tt, cond_ff, fill1, fill2, fill3, fill4, chunks1, chunks2, chunks3, chunks4, nil_ref, fa_ref, Nat.add_zero, stc_av6, bin_eql, Int.reduceBEq]
      refine Res.bind h0 (put1 [100, 111, 10] h.start (by simp; omega)) fun H1 s1 => ?_
      simp -implicitDefEqProofs only [hl, bind_ok, onO_some, Locs.find, beq_self_eq_true, if_true, Nat.reduceBEq, Bool.false_eq_true, if_false, ldc_cs, ldc_cs0, ldc_cs1, ldc_cs2, ldc_cs3, ldc_cs4, index_kv0, index_kv1, index_kv2, index_kv3, load_cs, load_cs0, load_cs0', load_cs1, load_cs2, load_cs3, load_cs4, fa_iptr, List.getD_cons_zero, List.getD_cons_succ, cond_tt, cond_ff, fill1, fill2, fill3, fill4, chunks1, chunks2, chunks3, chunks4, nil_ref, fa_ref, Nat.add_zero, stc_av6, bin_eql, Int.reduceBEq]
      refine Res.bind s1 (la lo p H1 _ s1.b (by simp; omega)) fun H2 s2 => ?_
      simp -implicitDefEqProofs only [hl, bind_ok, onO_some, Locs.find, beq_self_eq_true, if_true, Nat.reduceBEq, Bool.false_eq_true, if_false, ldc_cs, ldc_cs0, ldc_cs1, ldc_cs2, ldc_cs3, ldc_cs4, index_kv0, index_kv1, index_kv2, index_kv3, load_cs, load_cs0, load_cs0', load_cs1, load_cs2, load_cs3, load_cs4, fa_iptr, List.getD_cons_zero, List.getD_cons_succ, cond_tt, cond_ff, fill1, fill2, fill3, fill4, chunks1, chunks2, chunks3, chunks4, nil_ref, fa_ref, Nat.add_zero, stc_av6, bin_eql, Int.reduceBEq]
      refine Res.bind s2 (s_head pc [119, 104, 105, 108, 101] [59] s2.b (by simp; omega)) fun H3 s3 => ?_
      refine Res.bind s3 (put1 [10] s3.b (by simp; omega)) fun H4 s4 => ?_
      exact Res.fin' hB h s4 (by simp)
    · -- struct
      obtain ⟨h1, h2⟩ := okL_D ho (.inl hq)
      have hall : ∀ x ∈ n.kids, x.kind = 42 := by unfold declsP at h1; simp [hq] at h1; exact fun x hx => (h1.2 x hx).1
      rw [ln_41 hq] at hc ⊢
      simp only [List.length_append, List.length_cons, List.length_nil] at hc
      unfold g22 jn
      simp -implicitDefEqProofs only [fold_cs, fold_av]
      simp -implicitDefEqProofs only [hq, fold_cs, fold_av, bind_ok, onO_some, Locs.find, beq_self_eq_true, if_true, Nat.reduceBEq, Bool.false_eq_true, if_false, ldc_cs, ldc_cs0, ldc_cs1, ldc_cs2, ldc_cs3, ldc_cs4, index_kv0, index_kv1, index_kv2, index_kv3, load_cs, load_cs0, load_cs0', load_cs1, load_cs2, load_cs3, load_cs4, fa_iptr, List.getD_cons_zero, List.getD_cons_succ, cond_tt, cond_ff, fill1, fill2, fill3, fill4, chunks1, chunks2, chunks3, chunks4, nil_ref, fa_ref, Nat.add_zero, stc_av6, bin_eql, Int.reduceBEq]
      refine Res.bind h0 (put3 [115, 116, 114, 117, 99, 116, 32] n.str [32] h.start (by simp only [List.length_append, List.length_cons, List.length_nil]; omega)) fun H1 s1 => ?_
      refine Res.bind s1 (s_blockP hf.k (fun x hx => kl x hx (okL_42 (h2 x hx) (hall x hx))) n.nil s1.b (by simp only [List.length_append, List.length_cons, List.length_nil]; omega)) fun H2 s2 => ?_
      refine Res.bind s2 (put1 [59] s2.b (by simp only [List.length_append, List.length_cons, List.length_nil]; omega)) fun H3 s3 => ?_
      simp -implicitDefEqProofs only [bind_ok, onO_some, Locs.find, beq_self_eq_true, if_true, Nat.reduceBEq, Bool.false_eq_true, if_false, ldc_cs, ldc_cs0, ldc_cs1, ldc_cs2, ldc_cs3, ldc_cs4, index_kv0, index_kv1, index_kv2, index_kv3, load_cs, load_cs0, load_cs0', load_cs1, load_cs2, load_cs3, load_cs4, fa_iptr, List.getD_cons_zero, List.getD_cons_succ, cond_tt, cond_ff, fill1, fill2, fill3, fill4, chunks1, chunks2, chunks3, chunks4, nil_ref, fa_ref, Nat.add_zero, stc_av6, bin_eql, Int.reduceBEq]
      refine Res.bind s3 (put1 [10] s3.b (by simp only [List.length_append, List.length_cons, List.length_nil]; omega)) fun H4 s4 => ?_
      exact Res.fin' hB h s4 (by simp)
    · -- variables
      obtain ⟨h1, h2⟩ := okL_D ho (.inr (.inl hq))
      obtain ⟨x, r, hl, hall⟩ : ∃ x r, n.kids = x :: r ∧ ∀ v ∈ r, v.kind = 43 := by
        unfold declsP at h1; simp [hq] at h1
        match hl : n.kids, h1.2 with
        | x :: y :: r, h => simp at h; exact ⟨x, y :: r, rfl, fun v hv => by
            rcases List.mem_cons.mp hv with rfl | hv
            · simpa [isK] using h.2.1
            · simpa [isK] using h.2.2 v hv⟩
      have hfk := hf.k
      rw [hl] at hfk
      have pv : ∀ v ∈ r, PV m v := fun v hv => by
        have hv' : v ∈ n.kids := by rw [hl]; exact List.mem_cons_of_mem _ hv
        exact PV_of (by have := Nd.sz_kid hv'; omega) (h2 v hv') (hall v hv) (hnp.2.2 v hv')
      rw [ln_42 hq hl] at hc ⊢
      simp only [List.length_append, List.length_cons, List.length_nil] at hc
      obtain ⟨b', hb⟩ := slice_kv_1 n.nil x r
      unfold g22 jn
      simp -implicitDefEqProofs only [fold_cs, fold_av]
      simp -implicitDefEqProofs only [hq, hl, fold_cs, fold_av, bind_ok, onO_some, Locs.find, beq_self_eq_true, if_true, Nat.reduceBEq, Bool.false_eq_true, if_false, ldc_cs, ldc_cs0, ldc_cs1, ldc_cs2, ldc_cs3, ldc_cs4, index_kv0, index_kv1, index_kv2, index_kv3, load_cs, load_cs0, load_cs0', load_cs1, load_cs2, load_cs3, load_cs4, fa_iptr, List.getD_cons_zero, List.getD_cons_succ, cond_tt, cond_ff, fill1, fill2, fill3, fill4, chunks1, chunks2, chunks3, chunks4, nil_ref, fa_ref, Nat.add_zero, stc_av6, bin_eql, Int.reduceBEq]
      refine Res.bind h0 (put2 x.str [32] h.start (by simp only [List.length_append, List.length_cons, List.length_nil]; omega)) fun H1 s1 => ?_
      simp -implicitDefEqProofs only [hb, len_kv, bind_ok]
      have := vars_loop (m := m) (lo := lo) (p := p) (H := H) (l := r) (by simp at hfk; omega) pv b' (fun s1 => (W m 31 [s1.1.getD 0 undefA, .isl 1 [.str [10]]] s1.2.2).bind fun r2 => .ok (gc (.tup []) H r2.2)) (t ++ (x.str ++ 32 :: (join2 [] (r.map varT) ++ [59]))) (fun H3 L s3 => by
        refine Res.bind s3 (put1 [10] s3.b (by simp only [List.length_append, List.length_cons, List.length_nil]; omega)) fun H4 s4 => ?_
        exact Res.fin' hB h s4 rfl) (by simp only [List.length_append, List.length_cons, List.length_nil]; omega) r.length 0 H1 _ [(3, n.cs)] (by omega) s1 (by simp)
      rw [show t ++ (x.str ++ 32 :: (join2 [] (r.map varT) ++ [59])) ++ [10] = t ++ (x.str ++ 32 :: (join2 [] (r.map varT) ++ [59, 10])) by simp] at this
      exact this
    · -- function
      obtain ⟨h1, h2⟩ := okL_D ho (.inr (.inr hq))
      obtain ⟨x, r, z, hl, hz47, hall⟩ : ∃ x r z, n.kids = x :: (r ++ [z]) ∧ z.kind = 47 ∧ ∀ v ∈ r, v.kind = 46 := by
        unfold declsP at h1; simp [hq] at h1
        have hfn := h1.2
        unfold funK at hfn
        match hl : n.kids with
        | [] => rw [hl] at hfn; cases hfn
        | [x] => rw [hl] at hfn; cases hfn
        | x :: y :: r =>
          rw [hl] at hfn
          have hzz : (y :: r)[r.length]? = some ((y :: r)[r.length]'(by simp)) := List.getElem?_eq_getElem _
          simp only [hzz, Bool.and_eq_true, beq_iff_eq, List.all_eq_true] at hfn
          refine ⟨x, (y :: r).take r.length, (y :: r)[r.length]'(by simp), ?_, hfn.1.2, fun v hv => by simpa [isK] using hfn.2 v hv⟩
          congr 1
          conv => lhs; rw [← List.take_append_drop r.length (y :: r)]
          rw [List.drop_eq_getElem_cons (by simp), List.drop_eq_nil_of_le (by simp)]
      have hzm : z ∈ n.kids := by rw [hl]; simp
      have hzs := Nd.sz_kid hzm
      have hzn := numB_parts (hnp.2.2 z hzm)
      have hzL : okL z = true := okL_kid (h2 z hzm) (by rw [isS_range]; simp [hz47])
      obtain ⟨z1, z2⟩ := okL_S hzL (by omega)
      have hzall : ∀ y ∈ z.kids, isS y = true ∨ y.kind = 42 := by unfold statsP at z1; simp [hz47] at z1; exact z1.2
      have hzx : ∀ y ∈ z.kids, LX m y := fun y hy => by
        have hys := Nd.sz_kid hy
        refine ih y (by omega) (by omega) ?_ (hzn.2.2 y hy)
        rcases hzall y hy with h | h
        · exact okL_kid (z2 y hy) h
        · exact okL_42 (z2 y hy) h
      have hpp : ∀ v ∈ r, PP v := fun v hv => by
        have hv' : v ∈ n.kids := by rw [hl]; simp [hv]
        exact PP_of (h2 v hv') (hall v hv) (hnp.2.2 v hv')
      have hln : ln n = (x.str ++ 32 :: (n.str ++ 40 :: (join2 [] (r.map parT) ++ (41 :: 32 :: 123 :: 10 :: ((z.kids.map ln).flatten ++ [125]))))) ++ [10] := by
        rw [ln_45 hq hl]
        have e1 : (r ++ [z]).dropLast = r := by simp
        have e2 : ((x :: (r ++ [z])).map ln).getLastD [] = ln z := by
          rw [show (x :: (r ++ [z])).map ln = (ln x :: r.map ln) ++ [ln z] by simp, List.getLastD_eq_getLast?, List.getLast?_concat]; rfl
        rw [e1, e2, ln_47 hz47]
        simp
      rw [hln] at hc ⊢
      rw [List.length_append] at hc
      unfold g22 jn
      simp -implicitDefEqProofs only [fold_cs, fold_av]
      simp -implicitDefEqProofs only [hq, fold_cs, fold_av, bind_ok, onO_some, Locs.find, beq_self_eq_true, if_true, Nat.reduceBEq, Bool.false_eq_true, if_false, ldc_cs, ldc_cs0, ldc_cs1, ldc_cs2, ldc_cs3, ldc_cs4, index_kv0, index_kv1, index_kv2, index_kv3, load_cs, load_cs0, load_cs0', load_cs1, load_cs2, load_cs3, load_cs4, fa_iptr, List.getD_cons_zero, List.getD_cons_succ, cond_tt, cond_ff, fill1, fill2, fill3, fill4, chunks1, chunks2, chunks3, chunks4, nil_ref, fa_ref, Nat.add_zero, stc_av6, bin_eql, Int.reduceBEq]
      refine Res.bind h0 (s_fun hf.k hl hpp (fit_of (n := z) (by omega)).k hzx h.start (by omega)) fun H1 s1 => ?_
      simp -implicitDefEqProofs only [bind_ok, onO_some, Locs.find, beq_self_eq_true, if_true, Nat.reduceBEq, Bool.false_eq_true, if_false, ldc_cs, ldc_cs0, ldc_cs1, ldc_cs2, ldc_cs3, ldc_cs4, index_kv0, index_kv1, index_kv2, index_kv3, load_cs, load_cs0, load_cs0', load_cs1, load_cs2, load_cs3, load_cs4, fa_iptr, List.getD_cons_zero, List.getD_cons_succ, cond_tt, cond_ff, fill1, fill2, fill3, fill4, chunks1, chunks2, chunks3, chunks4, nil_ref, fa_ref, Nat.add_zero, stc_av6, bin_eql, Int.reduceBEq]
      refine Res.bind s1 (put1 [10] s1.b (by rw [List.length_append]; simp only [List.length_cons, List.length_nil] at hc ⊢; omega)) fun H2 s2 => ?_
      exact Res.fin' hB h s2 (by simp)
    · -- block
      obtain ⟨h1, h2⟩ := okL_S ho (by omega)
      have hall : ∀ y ∈ n.kids, isS y = true ∨ y.kind = 42 := by unfold statsP at h1; simp [hq] at h1; exact h1.2
      rw [ln_47 hq] at hc ⊢
      simp only [List.length_append, List.length_cons, List.length_nil] at hc
      unfold g22 jn
      simp -implicitDefEqProofs only [fold_cs, fold_av]
      simp -implicitDefEqProofs only [hq, fold_cs, fold_av, bind_ok, onO_some, Locs.find, beq_self_eq_true, if_true, Nat.reduceBEq, Bool.false_eq_true, if_false, ldc_cs, ldc_cs0, ldc_cs1, ldc_cs2, ldc_cs3, ldc_cs4, index_kv0, index_kv1, index_kv2, index_kv3, load_cs, load_cs0, load_cs0', load_cs1, load_cs2, load_cs3, load_cs4, fa_iptr, List.getD_cons_zero, List.getD_cons_succ, cond_tt, cond_ff, fill1, fill2, fill3, fill4, chunks1, chunks2, chunks3, chunks4, nil_ref, fa_ref, Nat.add_zero, stc_av6, bin_eql, Int.reduceBEq]
      refine Res.bind h0 (s_blockP hf.k (fun x hx => kl x hx (by
        rcases hall x hx with h | h
        · exact okL_kid (h2 x hx) h
        · exact okL_42 (h2 x hx) h)) n.nil h.start (by omega)) fun H1 s1 => ?_
      simp -implicitDefEqProofs only [bind_ok, onO_some, Locs.find, beq_self_eq_true, if_true, Nat.reduceBEq, Bool.false_eq_true, if_false, ldc_cs, ldc_cs0, ldc_cs1, ldc_cs2, ldc_cs3, ldc_cs4, index_kv0, index_kv1, index_kv2, index_kv3, load_cs, load_cs0, load_cs0', load_cs1, load_cs2, load_cs3, load_cs4, fa_iptr, List.getD_cons_zero, List.getD_cons_succ, cond_tt, cond_ff, fill1, fill2, fill3, fill4, chunks1, chunks2, chunks3, chunks4, nil_ref, fa_ref, Nat.add_zero, stc_av6, bin_eql, Int.reduceBEq]
      refine Res.bind s1 (put1 [10] s1.b (by simp only [List.length_append, List.length_cons, List.length_nil]; omega)) fun H2 s2 => ?_
      exact Res.fin' hB h s2 (by simp)
    · -- short ones
      obtain ⟨u, hu, hsh⟩ := s_short (m := m) hs ho hn hq h.start hc
      rw [hu] at hc ⊢
      rw [List.length_append] at hc
      unfold g22 jn
      simp -implicitDefEqProofs only [fold_cs, fold_av]
      simp -implicitDefEqProofs only [beq_eq_false_iff_ne.2 (show n.kind ≠ 49 by omega), beq_eq_false_iff_ne.2 (show n.kind ≠ 50 by omega), beq_eq_false_iff_ne.2 (show n.kind ≠ 52 by omega), beq_eq_false_iff_ne.2 (show n.kind ≠ 51 by omega), beq_eq_false_iff_ne.2 (show n.kind ≠ 41 by omega), beq_eq_false_iff_ne.2 (show n.kind ≠ 42 by omega), beq_eq_false_iff_ne.2 (show n.kind ≠ 45 by omega), beq_eq_false_iff_ne.2 (show n.kind ≠ 47 by omega), fold_cs, fold_av, cond_ff]
      refine Res.bind h0 hsh fun H1 s1 => ?_
      simp -implicitDefEqProofs only [bind_ok, onO_some, Locs.find, beq_self_eq_true, if_true, Nat.reduceBEq, Bool.false_eq_true, if_false, ldc_cs, ldc_cs0, ldc_cs1, ldc_cs2, ldc_cs3, ldc_cs4, index_kv0, index_kv1, index_kv2, index_kv3, load_cs, load_cs0, load_cs0', load_cs1, load_cs2, load_cs3, load_cs4, fa_iptr, List.getD_cons_zero, List.getD_cons_succ, cond_tt, cond_ff, fill1, fill2, fill3, fill4, chunks1, chunks2, chunks3, chunks4, nil_ref, fa_ref, Nat.add_zero, stc_av6, bin_eql, Int.reduceBEq]
      refine Res.bind s1 (put1 [10] s1.b (by rw [List.length_append]; exact Nat.le_trans (Nat.le_of_eq (Nat.add_assoc ..)) hc)) fun H2 s2 => ?_
      exact Res.fin' hB h s2 (by simp)
/-- A program's text. -/
def prText (n : Nd) : List UInt8 := (n.kids.map ln).flatten
def prOut (n : Nd) : List UInt8 × Int := if checkP n then (if 1048576 < (prText n).length then ([], 3) else (prText n, 0)) else ([], 80)
theorem check_parts {n : Nd} (h : checkP n = true) : n.kind = 40 ∧ ∀ x ∈ n.kids, okL x = true := by
  unfold checkP at h
  simp only [Bool.and_eq_true, beq_iff_eq] at h
  obtain ⟨⟨hk, _⟩, hm⟩ := h
  obtain ⟨h1, h2⟩ := may_decl hm (by omega)
  refine ⟨hk, fun x hx => ?_⟩
  unfold declsP at h1
  simp [hk] at h1
  have := h1.2 x hx
  unfold okL
  rw [h2 x hx]
  rcases this with (h | h) | h <;> simp [h]
theorem gc_tup_si (a : List UInt8) (b : Int) {H H' : Heap} (h : H.n ≤ H'.low) : gc (.tup [.str a, .int .i64 b]) H H' = (.tup [.str a, .int .i64 b], H) := gc_quiet h rfl
theorem s_print {n : Nd} (hs : n.sz < 67108864) (hn : numB n = true) (hc : checkP n = true → (prText n).length ≤ 1099511627776) (H : Heap) : W m 5 [n.av] H = .ok (.tup [.str (prOut n).1, .int .i64 (prOut n).2], H) := by
  have a1 := fun H => s_check (m := m) (n := n) (by omega) H
  have hnp := numB_parts hn
  rw [n.av_eq]
  refine c5 rfl n.kind n.str n.num n.flag _ n.pos H ?_
  unfold g5 prOut
  simp only [fold_cs, fold_av]
  cases hck : checkP n with
  | false =>
    simp -implicitDefEqProofs [a1, hck]
    exact gc_tup_si [] 80 (Nat.le_refl _)
  | true =>
    obtain ⟨_, hkids⟩ := check_parts hck
    have hb : Buf H.n (H.start.alloc (.cells 39 [nilSlice])) H.n [] := ⟨Nat.le_refl _, by simp [Heap.alloc], by simp [Heap.alloc], 39, nilSlice, by rw [Heap.get_alloc, if_pos (show H.n = H.start.n from rfl)], .inl ⟨rfl, rfl⟩, fun _ h => by simp [nilSlice] at h, rfl, rfl⟩
    obtain ⟨H1, e1, hb1, _⟩ := s_all (m := m) (l := n.kids) (fit_of (n := n) (by omega)).k (fun x hx => s_line x.sz x (Nat.le_refl _) (by have := Nd.sz_kid hx; omega) (hkids x hx) (hnp.2.2 x hx)) n.nil hb (by simpa [prText] using hc hck)
    rw [List.nil_append] at hb1
    obtain ⟨v, l1, l2, l3, _⟩ := hb1.load
    have hlow := hb1.lw
    have e1 : callW (X0 (gl m) pr) 14 [.ref H.n 0, kv n.nil n.kids] (H.start.alloc (.cells 39 [nilSlice])) = .ok (.tup [], H1) := e1
    simp -implicitDefEqProofs only [a1, bind_ok, hck, if_true, bin_neq, bne, beq_self_eq_true, Bool.not_true, cond_ff, start_n, e1, l1, l2, bin_gtr, gt_iff_lt]
    by_cases hlen : 1048576 < (prText n).length
    · have hd : decide ((1048576 : Int) < ((n.kids.map ln).flatten.length : Int)) = true := decide_eq_true (by unfold prText at hlen; omega)
      simp -implicitDefEqProofs only [hd, cond_tt, hlen, if_true]
      rw [gc_tup_si [] 3 hlow]
    · have hd : decide ((1048576 : Int) < ((n.kids.map ln).flatten.length : Int)) = false := decide_eq_false (by unfold prText at hlen; omega)
      simp -implicitDefEqProofs only [hd, cond_ff, hlen, if_false, l1, l3, bind_ok]
      rw [gc_tup_si _ 0 hlow]
      rfl
end Go.Proofs.YtnhblghplohonaaGreatDoor.Ab
