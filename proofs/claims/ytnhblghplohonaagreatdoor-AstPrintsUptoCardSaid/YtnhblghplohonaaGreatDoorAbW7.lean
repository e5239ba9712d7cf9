/- Walks: the printer's lines. -/
import Derived.Test.YtnhblghplohonaaGreatDoorAbW6
set_option linter.unusedSimpArgs false
set_option linter.unusedVariables false
namespace Go.Proofs.YtnhblghplohonaaGreatDoor.Ab
open Go
variable {m : Int}

theorem PE_of {n : Nd} (hs : n.sz < 67108864) (ho : okE n = true) (hn : numB n = true) : PE m n := ⟨s_expr n hs ho hn, (fit_of (by omega)).s, okE_lv ho⟩
theorem may_decl {n : Nd} (h : mayP n = true) (hk : 40 ≤ n.kind ∧ n.kind ≤ 46) : declsP n = true ∧ ∀ x ∈ n.kids, mayP x = true := by
  rw [mayP_eq] at h
  simp only [Bool.and_eq_true, List.all_eq_true] at h
  refine ⟨?_, h.2⟩
  have h2 := h.1
  unfold itselfP isE isS at h2
  rcases (by omega : n.kind = 40 ∨ n.kind = 41 ∨ n.kind = 42 ∨ n.kind = 43 ∨ n.kind = 44 ∨ n.kind = 45 ∨ n.kind = 46) with hk | hk | hk | hk | hk | hk | hk <;> simp [hk] at h2 <;> first | exact h2.2 | exact h2
theorem PV_of {v : Nd} (hs : v.sz < 67108864) (h : mayP v = true) (hk : v.kind = 43) (hn : numB v = true) : PV m v := by
  obtain ⟨h1, h2⟩ := may_decl h (by omega)
  have hv : varP v = true := by unfold declsP at h1; simp [hk] at h1; exact h1.2
  have hnp := numB_parts hn
  have pe : ∀ x ∈ v.kids, isE x = true → PE m x := fun x hx he => PE_of (by have := Nd.sz_kid hx; omega) (okE_kid (h2 x hx) he) (hnp.2.2 x hx)
  have ne44 : ∀ x : Nd, isE x = true → x.kind ≠ 44 := fun x he => by unfold isE at he; simp at he; omega
  have ne56 : ∀ x : Nd, isE x = true → x.kind ≠ 56 := fun x he => by unfold isE at he; simp at he; omega
  unfold varP at hv
  refine ⟨(fit_of (by omega)).s, fun hf => ?_, fun hf => ?_⟩
  · rw [hf, if_pos rfl] at hv
    match hl : v.kids with
    | [] => rw [hl] at hv; cases hv
    | x :: r =>
      rw [hl] at hv
      simp only [Bool.and_eq_true] at hv
      obtain ⟨hq, hr⟩ := hv
      refine ⟨x, r, rfl, ?_, ?_⟩
      · unfold isQ at hq
        simp only [Bool.or_eq_true, beq_iff_eq] at hq
        rcases hq with hq | hq
        · exact .inl hq
        · exact .inr ⟨ne56 x hq, pe x (by rw [hl]; simp) hq⟩
      · match r, hr with
        | [], _ => exact .inl rfl
        | [y], hr =>
          refine .inr ⟨y, rfl, ?_⟩
          simp only [varK, Bool.true_and, Bool.or_eq_true, beq_iff_eq] at hr
          rcases hr with hr | hr
          · exact .inr ⟨ne44 y hr, pe y (by rw [hl]; simp) hr⟩
          · have hym : y ∈ v.kids := by rw [hl]; simp
            obtain ⟨d1, d2⟩ := may_decl (h2 y hym) (by omega)
            have hyn := numB_parts (hnp.2.2 y hym)
            have hys := Nd.sz_kid hym
            have hall : ∀ z ∈ y.kids, isE z = true := by unfold declsP at d1; simp [hr] at d1; exact d1.2
            exact .inl ⟨hr, (fit_of (n := y) (by omega)).k, fun z hz => PE_of (by have := Nd.sz_kid hz; omega) (okE_kid (d2 z hz) (hall z hz)) (hyn.2.2 z hz)⟩
  · rw [hf, if_neg (by decide)] at hv
    match hl : v.kids with
    | [] => exact .inl rfl
    | [y] =>
      rw [hl] at hv
      simp only [varK, Bool.false_and, Bool.or_false] at hv
      exact .inr ⟨y, rfl, ne44 y hv, pe y (by rw [hl]; simp) hv⟩
    | x :: y :: r => rw [hl] at hv; cases hv
theorem PP_of {v : Nd} (h : mayP v = true) (hk : v.kind = 46) (hn : numB v = true) : PP v := by
  obtain ⟨h1, _⟩ := may_decl h (by omega)
  have hnp := numB_parts hn
  unfold declsP at h1
  simp [hk] at h1
  have hs := h1.2
  rw [shape1] at hs
  simp only [Bool.and_eq_true, decide_eq_true_eq] at hs
  obtain ⟨x, hx⟩ := len1 hs.1
  exact ⟨⟨x, hx⟩, by omega⟩
section
variable {lo p : Nat} {H : Heap} {t : List UInt8}
/-- A statement of one line. -/
theorem s_short {n : Nd} (hs : n.sz < 67108864) (ho : okL n = true) (hn : numB n = true) (hk : n.kind = 48 ∨ n.kind = 53 ∨ n.kind = 54 ∨ n.kind = 55 ∨ n.kind = 56) (h : Buf lo H p t) (hc : t.length + (ln n).length ≤ 1099511627776) :
    ∃ u, ln n = u ++ [10] ∧ Res p (PB lo p) H (t ++ u) (W m 36 [.ref p 0, n.av] H) := by
  obtain ⟨h1, h2⟩ := okL_S ho (by omega)
  have hnp := numB_parts hn
  have hB := buf_like lo p
  have h0 := St.init hB h
  have hcall := fun (u : List UInt8) (hu : Res p (PB lo p) H (t ++ u) (g36 (W m) loopW (.ref p 0) n.kind n.str n.num n.flag (kv n.nil n.kids) n.pos H)) => (show Res p (PB lo p) H (t ++ u) (W m 36 [.ref p 0, n.av] H) from by
    rw [n.av_eq]; exact Res.call (fun r hr => c36 rfl _ n.kind n.str n.num n.flag _ n.pos H hr) hu)
  unfold statsP at h1
  simp only [Bool.and_eq_true] at h1
  have h1 := h1.2
  rcases hk with hk | hk | hk | hk | hk
  · simp only [hk, Int.reduceEq, if_false, if_true] at h1
    rw [shape1] at h1
    simp only [Bool.and_eq_true, decide_eq_true_eq] at h1
    obtain ⟨x, hl⟩ := len1 h1.1
    rw [hl] at h1 h2 hnp
    have hpx : PE m x := PE_of (by have := Nd.sz_kid (show x ∈ n.kids by rw [hl]; simp); omega) (okE_kid (h2 x (by simp)) (by simpa using h1.2)) (hnp.2.2 x (by simp))
    rw [ln_48 hk hl] at hc ⊢
    simp only [List.length_append, List.length_cons, List.length_nil] at hc
    refine ⟨tx x ++ [59], by simp, hcall _ ?_⟩
    unfold g36 jn
    simp -implicitDefEqProofs only [hk, hl, fold_cs, fold_av, bind_ok, onO_some, Locs.find, beq_self_eq_true, if_true, Nat.reduceBEq, Bool.false_eq_true, if_false, ldc_cs, ldc_cs0, ldc_cs1, ldc_cs2, ldc_cs3, ldc_cs4, index_kv0, index_kv1, index_kv2, index_kv3, load_cs, load_cs0, load_cs0', load_cs1, load_cs2, load_cs3, load_cs4, fa_iptr, List.getD_cons_zero, List.getD_cons_succ, cond_tt, cond_ff, fill1, fill2, fill3, fill4, chunks1, chunks2, chunks3, chunks4, nil_ref, fa_ref, Nat.add_zero, stc_av6, bin_eql, Int.reduceBEq]
    refine Res.bind h0 (at0 hpx h.start (by omega)) fun H1 s1 => ?_
    refine Res.bind s1 (put1 [59] s1.b (by simp; omega)) fun H2 s2 => ?_
    exact Res.fin' hB h s2 (by simp)
  · rw [ln_53 hk] at hc ⊢
    simp only [List.length_cons, List.length_nil] at hc
    refine ⟨[98, 114, 101, 97, 107, 59], by simp, hcall _ ?_⟩
    unfold g36 jn
    simp -implicitDefEqProofs only [hk, fold_cs, fold_av, bind_ok, onO_some, Locs.find, beq_self_eq_true, if_true, Nat.reduceBEq, Bool.false_eq_true, if_false, ldc_cs, ldc_cs0, ldc_cs1, ldc_cs2, ldc_cs3, ldc_cs4, index_kv0, index_kv1, index_kv2, index_kv3, load_cs, load_cs0, load_cs0', load_cs1, load_cs2, load_cs3, load_cs4, fa_iptr, List.getD_cons_zero, List.getD_cons_succ, cond_tt, cond_ff, fill1, fill2, fill3, fill4, chunks1, chunks2, chunks3, chunks4, nil_ref, fa_ref, Nat.add_zero, stc_av6, bin_eql, Int.reduceBEq]
    refine Res.bind h0 (put1 _ h.start (by simp; omega)) fun H1 s1 => ?_
    refine Res.bind s1 (put1 [59] s1.b (by simp; omega)) fun H2 s2 => ?_
    exact Res.fin' hB h s2 (by simp)
  · rw [ln_54 hk] at hc ⊢
    simp only [List.length_cons, List.length_nil] at hc
    refine ⟨[99, 111, 110, 116, 105, 110, 117, 101, 59], by simp, hcall _ ?_⟩
    unfold g36 jn
    simp -implicitDefEqProofs only [hk, fold_cs, fold_av, bind_ok, onO_some, Locs.find, beq_self_eq_true, if_true, Nat.reduceBEq, Bool.false_eq_true, if_false, ldc_cs, ldc_cs0, ldc_cs1, ldc_cs2, ldc_cs3, ldc_cs4, index_kv0, index_kv1, index_kv2, index_kv3, load_cs, load_cs0, load_cs0', load_cs1, load_cs2, load_cs3, load_cs4, fa_iptr, List.getD_cons_zero, List.getD_cons_succ, cond_tt, cond_ff, fill1, fill2, fill3, fill4, chunks1, chunks2, chunks3, chunks4, nil_ref, fa_ref, Nat.add_zero, stc_av6, bin_eql, Int.reduceBEq]
    refine Res.bind h0 (put1 _ h.start (by simp; omega)) fun H1 s1 => ?_
    refine Res.bind s1 (put1 [59] s1.b (by simp; omega)) fun H2 s2 => ?_
    exact Res.fin' hB h s2 (by simp)
  · simp only [hk, Int.reduceEq, if_false, if_true, Bool.and_eq_true, decide_eq_true_eq] at h1
    match hl : n.kids with
    | [] =>
      rw [ln_55 hk hl] at hc ⊢
      simp only [List.length_cons, List.length_nil] at hc
      refine ⟨[114, 101, 116, 117, 114, 110, 59], by simp, hcall _ ?_⟩
      unfold g36 jn
      simp -implicitDefEqProofs only [hk, hl, fold_cs, fold_av, bind_ok, onO_some, Locs.find, beq_self_eq_true, if_true, Nat.reduceBEq, Bool.false_eq_true, if_false, ldc_cs, ldc_cs0, ldc_cs1, ldc_cs2, ldc_cs3, ldc_cs4, index_kv0, index_kv1, index_kv2, index_kv3, load_cs, load_cs0, load_cs0', load_cs1, load_cs2, load_cs3, load_cs4, fa_iptr, List.getD_cons_zero, List.getD_cons_succ, cond_tt, cond_ff, fill1, fill2, fill3, fill4, chunks1, chunks2, chunks3, chunks4, nil_ref, fa_ref, Nat.add_zero, stc_av6, bin_eql, Int.reduceBEq]
      refine Res.bind h0 (put1 _ h.start (by simp; omega)) fun H1 s1 => ?_
      simp -implicitDefEqProofs only [len_kv, List.length_nil, Int.natCast_zero, bin_gtr, gt_iff_lt, Int.lt_irrefl, decide_false, hl, bind_ok, onO_some, Locs.find, beq_self_eq_true, if_true, Nat.reduceBEq, Bool.false_eq_true, if_false, ldc_cs, ldc_cs0, ldc_cs1, ldc_cs2, ldc_cs3, ldc_cs4, index_kv0, index_kv1, index_kv2, index_kv3, load_cs, load_cs0, load_cs0', load_cs1, load_cs2, load_cs3, load_cs4, fa_iptr, List.getD_cons_zero, List.getD_cons_succ, cond_tt, cond_ff, fill1, fill2, fill3, fill4, chunks1, chunks2, chunks3, chunks4, nil_ref, fa_ref, Nat.add_zero, stc_av6, bin_eql, Int.reduceBEq]
      refine Res.bind s1 (put1 [59] s1.b (by simp; omega)) fun H2 s2 => ?_
      exact Res.fin' hB h s2 (by simp)
    | [x] =>
      rw [hl] at h1 h2 hnp
      have hpx : PE m x := PE_of (by have := Nd.sz_kid (show x ∈ n.kids by rw [hl]; simp); omega) (okE_kid (h2 x (by simp)) (by simpa using h1.2)) (hnp.2.2 x (by simp))
      rw [ln_55' hk hl] at hc ⊢
      simp only [List.length_append, List.length_cons, List.length_nil] at hc
      refine ⟨[114, 101, 116, 117, 114, 110, 32] ++ (tx x ++ [59]), by simp, hcall _ ?_⟩
      unfold g36 jn
      simp -implicitDefEqProofs only [hk, hl, fold_cs, fold_av, bind_ok, onO_some, Locs.find, beq_self_eq_true, if_true, Nat.reduceBEq, Bool.false_eq_true, if_false, ldc_cs, ldc_cs0, ldc_cs1, ldc_cs2, ldc_cs3, ldc_cs4, index_kv0, index_kv1, index_kv2, index_kv3, load_cs, load_cs0, load_cs0', load_cs1, load_cs2, load_cs3, load_cs4, fa_iptr, List.getD_cons_zero, List.getD_cons_succ, cond_tt, cond_ff, fill1, fill2, fill3, fill4, chunks1, chunks2, chunks3, chunks4, nil_ref, fa_ref, Nat.add_zero, stc_av6, bin_eql, Int.reduceBEq]
      refine Res.bind h0 (put1 _ h.start (by simp; omega)) fun H1 s1 => ?_
      have hg : decide ((([x] : List Nd).length : Int) > 0) = true := rfl
      simp -implicitDefEqProofs only [len_kv, bin_gtr, hg, hl, bind_ok, onO_some, Locs.find, beq_self_eq_true, if_true, Nat.reduceBEq, Bool.false_eq_true, if_false, ldc_cs, ldc_cs0, ldc_cs1, ldc_cs2, ldc_cs3, ldc_cs4, index_kv0, index_kv1, index_kv2, index_kv3, load_cs, load_cs0, load_cs0', load_cs1, load_cs2, load_cs3, load_cs4, fa_iptr, List.getD_cons_zero, List.getD_cons_succ, cond_tt, cond_ff, fill1, fill2, fill3, fill4, chunks1, chunks2, chunks3, chunks4, nil_ref, fa_ref, Nat.add_zero, stc_av6, bin_eql, Int.reduceBEq]
      refine Res.bind s1 (put1 [32] s1.b (by simp; omega)) fun H2 s2 => ?_
      simp -implicitDefEqProofs only [hl, bind_ok, onO_some, Locs.find, beq_self_eq_true, if_true, Nat.reduceBEq, Bool.false_eq_true, if_false, ldc_cs, ldc_cs0, ldc_cs1, ldc_cs2, ldc_cs3, ldc_cs4, index_kv0, index_kv1, index_kv2, index_kv3, load_cs, load_cs0, load_cs0', load_cs1, load_cs2, load_cs3, load_cs4, fa_iptr, List.getD_cons_zero, List.getD_cons_succ, cond_tt, cond_ff, fill1, fill2, fill3, fill4, chunks1, chunks2, chunks3, chunks4, nil_ref, fa_ref, Nat.add_zero, stc_av6, bin_eql, Int.reduceBEq]
      refine Res.bind s2 (at0 hpx s2.b (by simp; omega)) fun H3 s3 => ?_
      refine Res.bind s3 (put1 [59] s3.b (by simp; omega)) fun H4 s4 => ?_
      exact Res.fin' hB h s4 (by simp)
    | x :: y :: r => rw [hl] at h1; simp at h1; omega
  · rw [ln_56 hk] at hc ⊢
    simp only [List.length_cons, List.length_nil] at hc
    refine ⟨[59], by simp, hcall _ ?_⟩
    unfold g36 jn
    simp -implicitDefEqProofs only [hk, fold_cs, fold_av, bind_ok, onO_some, Locs.find, beq_self_eq_true, if_true, Nat.reduceBEq, Bool.false_eq_true, if_false, ldc_cs, ldc_cs0, ldc_cs1, ldc_cs2, ldc_cs3, ldc_cs4, index_kv0, index_kv1, index_kv2, index_kv3, load_cs, load_cs0, load_cs0', load_cs1, load_cs2, load_cs3, load_cs4, fa_iptr, List.getD_cons_zero, List.getD_cons_succ, cond_tt, cond_ff, fill1, fill2, fill3, fill4, chunks1, chunks2, chunks3, chunks4, nil_ref, fa_ref, Nat.add_zero, stc_av6, bin_eql, Int.reduceBEq]
    refine Res.bind h0 (put1 [59] h.start (by simp; omega)) fun H1 s1 => ?_
    exact Res.fin' hB h s1 (by simp)
end
end Go.Proofs.YtnhblghplohonaaGreatDoor.Ab
