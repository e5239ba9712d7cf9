/- Walks: the reference's printer: lines, Print. -/
import Derived.Test.YtnhblghplohonaaGreatDoorAbZ2
set_option linter.unusedSimpArgs false
set_option linter.unusedVariables false
namespace Go.Proofs.YtnhblghplohonaaGreatDoor.Ab
open Go
variable {m : Int}
theorem PVR_of {v : Nd} (hs : v.sz < 67108864) (h : mayP v = true) (hk : v.kind = 43) (hn : numB v = true) : PVR m v := by
  obtain ⟨h1, h2⟩ := may_decl h (by omega)
  have hv : varP v = true := by unfold declsP at h1; simp [hk] at h1; exact h1.2
  have hnp := numB_parts hn
  have pe : ∀ x ∈ v.kids, isE x = true → EXR m x := fun x hx he => s_txR x (by have := Nd.sz_kid hx; omega) (okE_kid (h2 x hx) he) (hnp.2.2 x hx)
  have ne44 : ∀ x : Nd, isE x = true → x.kind ≠ 44 := fun x he => by unfold isE at he; simp at he; omega
  have ne56 : ∀ x : Nd, isE x = true → x.kind ≠ 56 := fun x he => by unfold isE at he; simp at he; omega
  unfold varP at hv
  refine ⟨(fit_of (by omega)).s, fun hf => ?_, fun hf => ?_⟩
  · rw [hf, if_pos rfl] at hv
    match hl : v.kids with
    | [] => rw [hl] at hv; cases hv
    | x :: r =>
      rw [hl] at hv
      simp only [Bool.and_eq_true] at hv
      obtain ⟨hq, hr⟩ := hv
      refine ⟨x, r, rfl, ?_, ?_⟩
      · unfold isQ at hq
        simp only [Bool.or_eq_true, beq_iff_eq] at hq
        rcases hq with hq | hq
        · exact .inl hq
        · exact .inr ⟨ne56 x hq, pe x (by rw [hl]; simp) hq⟩
      · match r, hr with
        | [], _ => exact .inl rfl
        | [y], hr =>
          refine .inr ⟨y, rfl, ?_⟩
          simp only [varK, Bool.true_and, Bool.or_eq_true, beq_iff_eq] at hr
          rcases hr with hr | hr
          · exact .inr ⟨ne44 y hr, pe y (by rw [hl]; simp) hr⟩
          · have hym : y ∈ v.kids := by rw [hl]; simp
            obtain ⟨d1, d2⟩ := may_decl (h2 y hym) (by omega)
            have hyn := numB_parts (hnp.2.2 y hym)
            have hys := Nd.sz_kid hym
            have hall : ∀ z ∈ y.kids, isE z = true := by unfold declsP at d1; simp [hr] at d1; exact d1.2
            exact .inl ⟨hr, (fit_of (n := y) (by omega)).k, fun z hz => s_txR z (by have := Nd.sz_kid hz; omega) (okE_kid (d2 z hz) (hall z hz)) (hyn.2.2 z hz)⟩
  · rw [hf, if_neg (by decide)] at hv
    match hl : v.kids with
    | [] => exact .inl rfl
    | [y] =>
      rw [hl] at hv
      simp only [varK, Bool.false_and, Bool.or_false] at hv
      exact .inr ⟨y, rfl, ne44 y hv, pe y (by rw [hl]; simp) hv⟩
    | x :: y :: r => rw [hl] at hv; cases hv
theorem str_sz (n : Nd) : n.str.length < n.sz := by have := n.sz_eq; omega
theorem PPR_of {v : Nd} (hs : v.sz < 67108864) (h : mayP v = true) (hk : v.kind = 46) (hn : numB v = true) : PPR v := by
  obtain ⟨⟨x, hx⟩, h2⟩ := PP_of h hk hn
  exact ⟨⟨x, hx, by have := Nd.sz_kid (show x ∈ v.kids by rw [hx]; simp); have := str_sz x; omega⟩, h2, by have := str_sz v; omega⟩
section
variable {lo p : Nat} {H : Heap} {t : List UInt8}
theorem varsR_loop {n x : Nd} {l : List Nd} (hl : l.length < 1099511627776) (hk : n.kids = x :: l) (hx : ∀ x ∈ l, PVR m x) (h : RBuf lo H p t) (tf : List UInt8) :
    ∀ k i H1 t1, i + k = l.length → St p (RB lo p) H H1 t1 → tf = t1 ++ (join2 (if i = 0 then [] else [44, 32]) ((l.drop i).map varT) ++ [59, 10]) →
      Res p (RB lo p) H tf (loopW (g27_l9 (W m) loopW H) ([.ref p 0, .int .i64 ((i + 1 : Nat) : Int)], [(3, n.cs)], H1)) := by
  intro k
  induction k with
  | zero =>
    intro i H1 t1 hi hs he
    rw [List.drop_eq_nil_of_le (by omega)] at he
    simp only [List.map_nil, join2, List.nil_append] at he
    obtain ⟨H3, e3, hs3⟩ := Res.st hs (s_putR (m := m) [59, 10] hs.b (by decide))
    refine Res.done (x := .ok (gc (.tup []) H H3)) (fun k => ?_) ?_
    · have hlt : decide (((i + 1 : Nat) : Int) < (n.kids.length : Int)) = false := decide_eq_false (by rw [hk, List.length_cons]; omega)
      unfold g27_l9
      simp -implicitDefEqProofs only [bin_lss, len_kv, hlt, e3, bind_ok, onO_some, Locs.find, beq_self_eq_true, if_true, Nat.reduceBEq, Bool.false_eq_true, if_false, ldc_cs, ldc_cs0, ldc_cs1, ldc_cs2, ldc_cs3, ldc_cs4, index_kv0, index_kv1, index_kv2, index_kv3, load_cs, load_cs0, load_cs0', load_cs1, load_cs2, load_cs3, load_cs4, fa_iptr, List.getD_cons_zero, List.getD_cons_succ, cond_tt, cond_ff, fill1, fill2, fill3, fill4, chunks1, chunks2, chunks3, chunks4, nil_ref, fa_ref, Nat.add_zero, stc_av6, bin_eql, Int.reduceBEq]
    · exact Res.fin' (rbuf_like lo p) h hs3 he.symm
  | succ k ih =>
    intro i H1 t1 hi hs he
    have hil : i < l.length := by omega
    rw [List.drop_eq_getElem_cons hil, List.map_cons, join2] at he
    obtain ⟨H2, hs2, hK⟩ := sepR (m := m) [44, 32] (by decide) hs (i = 0)
    obtain ⟨H3, e3, hs3⟩ := Res.st hs2 (s_declared (hx l[i] (List.getElem_mem hil)) hs2.b)
    have hidx : M.indexSl 6 (kv n.nil n.kids) (.int .i64 ((i + 1 : Nat) : Int)) = .ok (.iptr l[i].cs) := index_kv (by omega) (by rw [hk, Int.toNat_natCast, List.getElem?_cons_succ, List.getElem?_eq_getElem hil])
    refine Res.step (s' := ([.ref p 0, .int .i64 ((i + 1 + 1 : Nat) : Int)], [(3, n.cs)], H3)) (fun k => ?_) ?_
    · have w1 := wrap_i64 (x := ((i + 1 : Nat) : Int) + 1) (by omega) (by omega)
      have w2 : ((i + 1 + 1 : Nat) : Int) = ((i + 1 : Nat) : Int) + 1 := rfl
      have hlt : decide (((i + 1 : Nat) : Int) < (n.kids.length : Int)) = true := decide_eq_true (by rw [hk, List.length_cons]; omega)
      have hgt : decide (((i + 1 : Nat) : Int) > 1) = !decide (i = 0) := by by_cases h0 : i = 0 <;> simp [h0]; omega
      have c3 : ∀ (X Y : Out Ans), condEv (.bool (!decide (i = 0))) X Y = if i = 0 then Y else X := fun X Y => by by_cases h1 : i = 0 <;> simp [h1]
      have hK := hK fun H2 => (W m 42 [.ref p 0, l[i].av] H2).bind fun r => k ([.ref p 0, .int .i64 (((i + 1 : Nat) : Int) + 1)], [(3, n.cs)], r.2)
      rw [e3] at hK
      rw [w2]
      unfold g27_l9 jn
      simp -implicitDefEqProofs only [bin_lss, len_kv, hlt, bin_gtr, hgt, c3, hidx, bin_add, w1, bind_ok, onO_some, Locs.find, beq_self_eq_true, if_true, Nat.reduceBEq, Bool.false_eq_true, if_false, ldc_cs, ldc_cs0, ldc_cs1, ldc_cs2, ldc_cs3, ldc_cs4, index_kv0, index_kv1, index_kv2, index_kv3, load_cs, load_cs0, load_cs0', load_cs1, load_cs2, load_cs3, load_cs4, fa_iptr, List.getD_cons_zero, List.getD_cons_succ, cond_tt, cond_ff, fill1, fill2, fill3, fill4, chunks1, chunks2, chunks3, chunks4, nil_ref, fa_ref, Nat.add_zero, stc_av6, bin_eql, Int.reduceBEq]
      exact hK
    · refine ih (i + 1) H3 _ (by omega) hs3 ?_
      rw [if_neg (Nat.succ_ne_zero i), he]
      simp only [List.append_assoc]
theorem s_lineR : ∀ (k : Nat) (n : Nd), n.sz ≤ k → n.sz < 67108864 → okL n = true → numB n = true → LXR m n := by
  intro k
  induction k with
  | zero => intro n hk; have := n.sz_pos; omega
  | succ k ih =>
    intro n hk hs ho hn lo p H t h
    have hf := fit_of (n := n) (by omega)
    have hsn := str_sz n
    have hnp := numB_parts hn
    have hB := rbuf_like lo p
    have h0 := St.init hB h
    have kl : ∀ x ∈ n.kids, okL x = true → LXR m x := fun x hx hox => ih x (by have := Nd.sz_kid hx; omega) (by have := Nd.sz_kid hx; omega) hox (hnp.2.2 x hx)
    have ke : ∀ x ∈ n.kids, okE x = true → EXR m x := fun x hx hox => s_txR x (by have := Nd.sz_kid hx; omega) hox (hnp.2.2 x hx)
    have hkinds : (47 ≤ n.kind ∧ n.kind ≤ 56) ∨ n.kind = 41 ∨ n.kind = 42 ∨ n.kind = 45 := by
      unfold okL at ho
      rw [isS_range] at ho
      simp only [Bool.and_eq_true, Bool.or_eq_true, decide_eq_true_eq, beq_iff_eq] at ho
      omega
    have hcall : Res p (RB lo p) H (t ++ ln n) (g27 (W m) loopW (.ref p 0) n.kind n.str n.num n.flag (kv n.nil n.kids) n.pos H) → Res p (RB lo p) H (t ++ ln n) (W m 27 [.ref p 0, n.av] H) := fun hu => by
      rw [n.av_eq]; exact Res.call (fun r hr => c27 rfl _ n.kind n.str n.num n.flag _ n.pos H hr) hu
    refine hcall ?_
    have hq0 : n.kind = 49 ∨ n.kind = 50 ∨ n.kind = 52 ∨ n.kind = 51 ∨ n.kind = 41 ∨ n.kind = 42 ∨ n.kind = 45 ∨ n.kind = 47 ∨ n.kind = 48 ∨ n.kind = 53 ∨ n.kind = 54 ∨ n.kind = 55 ∨ n.kind = 56 := by omega
    unfold g27 jn
    simp -implicitDefEqProofs only [fold_cs, fold_av]
    rcases hq0 with hq | hq | hq | hq | hq | hq | hq | hq | hq | hq | hq | hq | hq
    all_goals simp -implicitDefEqProofs only [hq, fold_cs, fold_av, bind_ok, onO_some, Locs.find, beq_self_eq_true, if_true, Nat.reduceBEq, Bool.false_eq_true, if_false, ldc_cs, ldc_cs0, ldc_cs1, ldc_cs2, ldc_cs3, ldc_cs4, index_kv0, index_kv1, index_kv2, index_kv3, load_cs, load_cs0, load_cs0', load_cs1, load_cs2, load_cs3, load_cs4, fa_iptr, List.getD_cons_zero, List.getD_cons_succ, cond_tt, cond_ff, fill1, fill2, fill3, fill4, chunks1, chunks2, chunks3, chunks4, nil_ref, fa_ref, Nat.add_zero, stc_av6, bin_eql, Int.reduceBEq]
    · -- if
      obtain ⟨h1, h2⟩ := okL_S ho (by omega)
      unfold statsP at h1
      simp only [Bool.and_eq_true, hq, Int.reduceEq, if_false, if_true, Bool.or_eq_true] at h1
      rcases h1.2 with h3 | h3
      · unfold shape at h3
        simp only [Bool.and_eq_true, decide_eq_true_eq] at h3
        obtain ⟨c, a, hl⟩ := len2 h3.1
        rw [hl] at h3 h2
        simp only [zipAll, Bool.and_eq_true, Bool.and_true] at h3
        have pc := ke c (by rw [hl]; simp) (okE_kid (h2 c (by simp)) h3.2.1)
        have la := kl a (by rw [hl]; simp) (okL_kid (h2 a (by simp)) h3.2.2)
        rw [ln_49 hq hl]
        simp -implicitDefEqProofs only [hl, bind_ok, onO_some, Locs.find, beq_self_eq_true, if_true, Nat.reduceBEq, Bool.false_eq_true, if_false, ldc_cs, ldc_cs0, ldc_cs1, ldc_cs2, ldc_cs3, ldc_cs4, index_kv0, index_kv1, index_kv2, index_kv3, load_cs, load_cs0, load_cs0', load_cs1, load_cs2, load_cs3, load_cs4, fa_iptr, List.getD_cons_zero, List.getD_cons_succ, cond_tt, cond_ff, fill1, fill2, fill3, fill4, chunks1, chunks2, chunks3, chunks4, nil_ref, fa_ref, Nat.add_zero, stc_av6, bin_eql, Int.reduceBEq]
        refine Res.bind h0 (s_test pc [105, 102] [10] (by decide) (by decide) h0.b) fun H1 s1 => ?_
        simp -implicitDefEqProofs only [hl, bind_ok, onO_some, Locs.find, beq_self_eq_true, if_true, Nat.reduceBEq, Bool.false_eq_true, if_false, ldc_cs, ldc_cs0, ldc_cs1, ldc_cs2, ldc_cs3, ldc_cs4, index_kv0, index_kv1, index_kv2, index_kv3, load_cs, load_cs0, load_cs0', load_cs1, load_cs2, load_cs3, load_cs4, fa_iptr, List.getD_cons_zero, List.getD_cons_succ, cond_tt, cond_ff, fill1, fill2, fill3, fill4, chunks1, chunks2, chunks3, chunks4, nil_ref, fa_ref, Nat.add_zero, stc_av6, bin_eql, Int.reduceBEq]
        refine Res.bind s1 (la lo p H1 _ s1.b) fun H2 s2 => ?_
        have e1 : ((([c, a] : List Nd).length : Int) == 3) = false := rfl
        simp -implicitDefEqProofs only [hl, len_kv, e1, bind_ok, onO_some, Locs.find, beq_self_eq_true, if_true, Nat.reduceBEq, Bool.false_eq_true, if_false, ldc_cs, ldc_cs0, ldc_cs1, ldc_cs2, ldc_cs3, ldc_cs4, index_kv0, index_kv1, index_kv2, index_kv3, load_cs, load_cs0, load_cs0', load_cs1, load_cs2, load_cs3, load_cs4, fa_iptr, List.getD_cons_zero, List.getD_cons_succ, cond_tt, cond_ff, fill1, fill2, fill3, fill4, chunks1, chunks2, chunks3, chunks4, nil_ref, fa_ref, Nat.add_zero, stc_av6, bin_eql, Int.reduceBEq]
        exact Res.fin' hB h s2 (by simp)
      · have h3 := h3.1
        unfold shape at h3
        simp only [Bool.and_eq_true, decide_eq_true_eq] at h3
        obtain ⟨c, a, b, hl⟩ : ∃ c a b, n.kids = [c, a, b] := by
          match hl : n.kids, h3.1 with
          | [c, a, b], _ => exact ⟨c, a, b, rfl⟩
        rw [hl] at h3 h2
        simp only [zipAll, Bool.and_eq_true, Bool.and_true] at h3
        have pc := ke c (by rw [hl]; simp) (okE_kid (h2 c (by simp)) h3.2.1)
        have la := kl a (by rw [hl]; simp) (okL_kid (h2 a (by simp)) h3.2.2.1)
        have lb := kl b (by rw [hl]; simp) (okL_kid (h2 b (by simp)) h3.2.2.2)
        rw [ln_49' hq hl]
        simp -implicitDefEqProofs only [hl, bind_ok, onO_some, Locs.find, beq_self_eq_true, if_true, Nat.reduceBEq, Bool.false_eq_true, if_false, ldc_cs, ldc_cs0, ldc_cs1, ldc_cs2, ldc_cs3, ldc_cs4, index_kv0, index_kv1, index_kv2, index_kv3, load_cs, load_cs0, load_cs0', load_cs1, load_cs2, load_cs3, load_cs4, fa_iptr, List.getD_cons_zero, List.getD_cons_succ, cond_tt, cond_ff, fill1, fill2, fill3, fill4, chunks1, chunks2, chunks3, chunks4, nil_ref, fa_ref, Nat.add_zero, stc_av6, bin_eql, Int.reduceBEq]
        refine Res.bind h0 (s_test pc [105, 102] [10] (by decide) (by decide) h0.b) fun H1 s1 => ?_
        simp -implicitDefEqProofs only [hl, bind_ok, onO_some, Locs.find, beq_self_eq_true, if_true, Nat.reduceBEq, Bool.false_eq_true, if_false, ldc_cs, ldc_cs0, ldc_cs1, ldc_cs2, ldc_cs3, ldc_cs4, index_kv0, index_kv1, index_kv2, index_kv3, load_cs, load_cs0, load_cs0', load_cs1, load_cs2, load_cs3, load_cs4, fa_iptr, List.getD_cons_zero, List.getD_cons_succ, cond_tt, cond_ff, fill1, fill2, fill3, fill4, chunks1, chunks2, chunks3, chunks4, nil_ref, fa_ref, Nat.add_zero, stc_av6, bin_eql, Int.reduceBEq]
        refine Res.bind s1 (la lo p H1 _ s1.b) fun H2 s2 => ?_
        have e1 : ((([c, a, b] : List Nd).length : Int) == 3) = true := rfl
        simp -implicitDefEqProofs only [hl, len_kv, e1, bind_ok, onO_some, Locs.find, beq_self_eq_true, if_true, Nat.reduceBEq, Bool.false_eq_true, if_false, ldc_cs, ldc_cs0, ldc_cs1, ldc_cs2, ldc_cs3, ldc_cs4, index_kv0, index_kv1, index_kv2, index_kv3, load_cs, load_cs0, load_cs0', load_cs1, load_cs2, load_cs3, load_cs4, fa_iptr, List.getD_cons_zero, List.getD_cons_succ, cond_tt, cond_ff, fill1, fill2, fill3, fill4, chunks1, chunks2, chunks3, chunks4, nil_ref, fa_ref, Nat.add_zero, stc_av6, bin_eql, Int.reduceBEq]
        refine Res.bind s2 (s_putR _ s2.b (by decide)) fun H3 s3 => ?_
        simp -implicitDefEqProofs only [hl, bind_ok, onO_some, Locs.find, beq_self_eq_true, if_true, Nat.reduceBEq, Bool.false_eq_true, if_false, ldc_cs, ldc_cs0, ldc_cs1, ldc_cs2, ldc_cs3, ldc_cs4, index_kv0, index_kv1, index_kv2, index_kv3, load_cs, load_cs0, load_cs0', load_cs1, load_cs2, load_cs3, load_cs4, fa_iptr, List.getD_cons_zero, List.getD_cons_succ, cond_tt, cond_ff, fill1, fill2, fill3, fill4, chunks1, chunks2, chunks3, chunks4, nil_ref, fa_ref, Nat.add_zero, stc_av6, bin_eql, Int.reduceBEq]
        refine Res.bind s3 (lb lo p H3 _ s3.b) fun H4 s4 => ?_
        exact Res.fin' hB h s4 (by simp)
    · -- while
      obtain ⟨h1, h2⟩ := okL_S ho (by omega)
      unfold statsP at h1
      simp only [Bool.and_eq_true, hq, Int.reduceEq, if_false, if_true] at h1
      have h3 := h1.2
      unfold shape at h3
      simp only [Bool.and_eq_true, decide_eq_true_eq] at h3
      obtain ⟨c, a, hl⟩ := len2 h3.1
      rw [hl] at h3 h2
      simp only [zipAll, Bool.and_eq_true, Bool.and_true] at h3
      have pc := ke c (by rw [hl]; simp) (okE_kid (h2 c (by simp)) h3.2.1)
      have la := kl a (by rw [hl]; simp) (okL_kid (h2 a (by simp)) h3.2.2)
      rw [ln_50 hq hl]
      simp -implicitDefEqProofs only [hl, bind_ok, onO_some, Locs.find, beq_self_eq_true, if_true, Nat.reduceBEq, Bool.false_eq_true, if_false, ldc_cs, ldc_cs0, ldc_cs1, ldc_cs2, ldc_cs3, ldc_cs4, index_kv0, index_kv1, index_kv2, index_kv3, load_cs, load_cs0, load_cs0', load_cs1, load_cs2, load_cs3, load_cs4, fa_iptr, List.getD_cons_zero, List.getD_cons_succ, cond_tt, cond_ff, fill1, fill2, fill3, fill4, chunks1, chunks2, chunks3, chunks4, nil_ref, fa_ref, Nat.add_zero, stc_av6, bin_eql, Int.reduceBEq]
      refine Res.bind h0 (s_test pc [119, 104, 105, 108, 101] [10] (by decide) (by decide) h0.b) fun H1 s1 => ?_
      simp -implicitDefEqProofs only [hl, bind_ok, onO_some, Locs.find, beq_self_eq_true, if_true, Nat.reduceBEq, Bool.false_eq_true, if_false, ldc_cs, ldc_cs0, ldc_cs1, ldc_cs2, ldc_cs3, ldc_cs4, index_kv0, index_kv1, index_kv2, index_kv3, load_cs, load_cs0, load_cs0', load_cs1, load_cs2, load_cs3, load_cs4, fa_iptr, List.getD_cons_zero, List.getD_cons_succ, cond_tt, cond_ff, fill1, fill2, fill3, fill4, chunks1, chunks2, chunks3, chunks4, nil_ref, fa_ref, Nat.add_zero, stc_av6, bin_eql, Int.reduceBEq]
      refine Res.bind s1 (la lo p H1 _ s1.b) fun H2 s2 => ?_
      exact Res.fin' hB h s2 (by simp)
    · -- for
      obtain ⟨h1, h2⟩ := okL_S ho (by omega)
      unfold statsP at h1
      simp only [Bool.and_eq_true, hq, Int.reduceEq, if_false, if_true] at h1
      have h3 := h1.2
      unfold shape at h3
      simp only [Bool.and_eq_true, decide_eq_true_eq] at h3
      obtain ⟨a, b, c, d, hl⟩ : ∃ a b c d, n.kids = [a, b, c, d] := by
        match hl : n.kids, h3.1 with
        | [a, b, c, d], _ => exact ⟨a, b, c, d, rfl⟩
      rw [hl] at h3 h2
      simp only [zipAll, Bool.and_eq_true, Bool.and_true] at h3
      have pq : ∀ x ∈ n.kids, isQ x = true → mayP x = true → x.kind = 56 ∨ (x.kind ≠ 56 ∧ EXR m x) := fun x hx hqx hm => by
        by_cases h56 : x.kind = 56
        · exact .inl h56
        · exact .inr ⟨h56, ke x hx ((okQ_kid hm hqx).resolve_left h56)⟩
      have ld := kl d (by rw [hl]; simp) (okL_kid (h2 d (by simp)) h3.2.2.2.2)
      rw [ln_52 hq hl]
      refine Res.bind h0 (s_loop hl (fun x hx => ?_) ld h0.b) fun H1 s1 => ?_
      · simp only [List.mem_cons, List.not_mem_nil, or_false] at hx
        rcases hx with rfl | rfl | rfl
        · exact pq x (by rw [hl]; simp) h3.2.1 (h2 x (by simp))
        · exact pq x (by rw [hl]; simp) h3.2.2.1 (h2 x (by simp))
        · exact pq x (by rw [hl]; simp) h3.2.2.2.1 (h2 x (by simp))
      · exact Res.fin' hB h s1 rfl
    · -- do
      obtain ⟨h1, h2⟩ := okL_S ho (by omega)
      unfold statsP at h1
      simp only [Bool.and_eq_true, hq, Int.reduceEq, if_false, if_true] at h1
      have h3 := h1.2
      unfold shape at h3
      simp only [Bool.and_eq_true, decide_eq_true_eq] at h3
      obtain ⟨a, c, hl⟩ := len2 h3.1
      rw [hl] at h3 h2
      simp only [zipAll, Bool.and_eq_true, Bool.and_true] at h3
      have pc := ke c (by rw [hl]; simp) (okE_kid (h2 c (by simp)) h3.2.2)
      have la := kl a (by rw [hl]; simp) (okL_kid (h2 a (by simp)) h3.2.1)
      rw [ln_51 hq hl]
      refine Res.bind h0 (s_putR _ h0.b (by decide)) fun H1 s1 => ?_
      simp -implicitDefEqProofs only [hl, bind_ok, onO_some, Locs.find, beq_self_eq_true, if_true, Nat.reduceBEq, Bool.false_eq_true, if_false, ldc_cs, ldc_cs0, ldc_cs1, ldc_cs2, ldc_cs3, ldc_cs4, index_kv0, index_kv1, index_kv2, index_kv3, load_cs, load_cs0, load_cs0', load_cs1, load_cs2, load_cs3, load_cs4, fa_iptr, List.getD_cons_zero, List.getD_cons_succ, cond_tt, cond_ff, fill1, fill2, fill3, fill4, chunks1, chunks2, chunks3, chunks4, nil_ref, fa_ref, Nat.add_zero, stc_av6, bin_eql, Int.reduceBEq]
      refine Res.bind s1 (la lo p H1 _ s1.b) fun H2 s2 => ?_
      simp -implicitDefEqProofs only [hl, bind_ok, onO_some, Locs.find, beq_self_eq_true, if_true, Nat.reduceBEq, Bool.false_eq_true, if_false, ldc_cs, ldc_cs0, ldc_cs1, ldc_cs2, ldc_cs3, ldc_cs4, index_kv0, index_kv1, index_kv2, index_kv3, load_cs, load_cs0, load_cs0', load_cs1, load_cs2, load_cs3, load_cs4, fa_iptr, List.getD_cons_zero, List.getD_cons_succ, cond_tt, cond_ff, fill1, fill2, fill3, fill4, chunks1, chunks2, chunks3, chunks4, nil_ref, fa_ref, Nat.add_zero, stc_av6, bin_eql, Int.reduceBEq]
      refine Res.bind s2 (s_test pc [119, 104, 105, 108, 101] [59, 10] (by decide) (by decide) s2.b) fun H3 s3 => ?_
      exact Res.fin' hB h s3 (by simp)
    · -- struct
      obtain ⟨h1, h2⟩ := okL_D ho (.inl hq)
      have hall : ∀ x ∈ n.kids, x.kind = 42 := by unfold declsP at h1; simp [hq] at h1; exact fun x hx => (h1.2 x hx).1
      rw [ln_41 hq]
      have a1 := fun t a b => sadd Tryz.prog t a b (s := [115, 116, 114, 117, 99, 116, 32]) (u := n.str) (by simp; omega)
      have a2 := fun t a b => sadd Tryz.prog t a b (s := [115, 116, 114, 117, 99, 116, 32] ++ n.str) (u := [32, 123, 10]) (by simp; omega)
      simp -implicitDefEqProofs only [a1, a2, bind_ok, onO_some, Locs.find, beq_self_eq_true, if_true, Nat.reduceBEq, Bool.false_eq_true, if_false, ldc_cs, ldc_cs0, ldc_cs1, ldc_cs2, ldc_cs3, ldc_cs4, index_kv0, index_kv1, index_kv2, index_kv3, load_cs, load_cs0, load_cs0', load_cs1, load_cs2, load_cs3, load_cs4, fa_iptr, List.getD_cons_zero, List.getD_cons_succ, cond_tt, cond_ff, fill1, fill2, fill3, fill4, chunks1, chunks2, chunks3, chunks4, nil_ref, fa_ref, Nat.add_zero, stc_av6, bin_eql, Int.reduceBEq]
      refine Res.bind h0 (s_putR _ h0.b (by simp; omega)) fun H1 s1 => ?_
      refine Res.bind s1 (s_allR hf.k (fun x hx => kl x hx (okL_42 (h2 x hx) (hall x hx))) n.nil s1.b) fun H2 s2 => ?_
      refine Res.bind s2 (s_putR _ s2.b (by decide)) fun H3 s3 => ?_
      exact Res.fin' hB h s3 (by simp)
    · -- variables
      obtain ⟨h1, h2⟩ := okL_D ho (.inr (.inl hq))
      obtain ⟨x, r, hl, hall⟩ : ∃ x r, n.kids = x :: r ∧ ∀ v ∈ r, v.kind = 43 := by
        unfold declsP at h1; simp [hq] at h1
        match hl : n.kids, h1.2 with
        | x :: y :: r, h => simp at h; exact ⟨x, y :: r, rfl, fun v hv => by
            rcases List.mem_cons.mp hv with rfl | hv
            · simpa [isK] using h.2.1
            · simpa [isK] using h.2.2 v hv⟩
      have hfk := hf.k
      rw [hl] at hfk
      have pv : ∀ v ∈ r, PVR m v := fun v hv => by
        have hv' : v ∈ n.kids := by rw [hl]; exact List.mem_cons_of_mem _ hv
        exact PVR_of (by have := Nd.sz_kid hv'; omega) (h2 v hv') (hall v hv) (hnp.2.2 v hv')
      have hxs : x.str.length < 67108864 := by have := Nd.sz_kid (show x ∈ n.kids by rw [hl]; simp); have := str_sz x; omega
      rw [ln_42 hq hl]
      have a1 := fun t a b => sadd Tryz.prog t a b (s := x.str) (u := [32]) (by simp; omega)
      have i0 : M.indexSl 6 (kv n.nil n.kids) (.int .i64 0) = .ok (.iptr x.cs) := by rw [hl, index_kv0]
      simp -implicitDefEqProofs only [i0, a1, bind_ok, onO_some, Locs.find, beq_self_eq_true, if_true, Nat.reduceBEq, Bool.false_eq_true, if_false, ldc_cs, ldc_cs0, ldc_cs1, ldc_cs2, ldc_cs3, ldc_cs4, index_kv0, index_kv1, index_kv2, index_kv3, load_cs, load_cs0, load_cs0', load_cs1, load_cs2, load_cs3, load_cs4, fa_iptr, List.getD_cons_zero, List.getD_cons_succ, cond_tt, cond_ff, fill1, fill2, fill3, fill4, chunks1, chunks2, chunks3, chunks4, nil_ref, fa_ref, Nat.add_zero, stc_av6, bin_eql, Int.reduceBEq]
      refine Res.bind h0 (s_putR _ h0.b (by simp; omega)) fun H1 s1 => ?_
      exact varsR_loop (m := m) (n := n) (x := x) (l := r) (by simp at hfk; omega) hl pv h _ r.length 0 H1 _ (by omega) s1 (by simp)
    · -- function
      obtain ⟨h1, h2⟩ := okL_D ho (.inr (.inr hq))
      obtain ⟨x, r, z, hl, hz47, hall⟩ : ∃ x r z, n.kids = x :: (r ++ [z]) ∧ z.kind = 47 ∧ ∀ v ∈ r, v.kind = 46 := by
        unfold declsP at h1; simp [hq] at h1
        have hfn := h1.2
        unfold funK at hfn
        match hl : n.kids with
        | [] => rw [hl] at hfn; cases hfn
        | [x] => rw [hl] at hfn; cases hfn
        | x :: y :: r =>
          rw [hl] at hfn
          have hzz : (y :: r)[r.length]? = some ((y :: r)[r.length]'(by simp)) := List.getElem?_eq_getElem _
          simp only [hzz, Bool.and_eq_true, beq_iff_eq, List.all_eq_true] at hfn
          refine ⟨x, (y :: r).take r.length, (y :: r)[r.length]'(by simp), ?_, hfn.1.2, fun v hv => by simpa [isK] using hfn.2 v hv⟩
          congr 1
          conv => lhs; rw [← List.take_append_drop r.length (y :: r)]
          rw [List.drop_eq_getElem_cons (by simp), List.drop_eq_nil_of_le (by simp)]
      have hzm : z ∈ n.kids := by rw [hl]; simp
      have lz := kl z hzm (okL_kid (h2 z hzm) (by rw [isS_range]; simp [hz47]))
      have hxs : x.str.length < 67108864 := by have := Nd.sz_kid (show x ∈ n.kids by rw [hl]; simp); have := str_sz x; omega
      have hpp : ∀ v ∈ r, PPR v := fun v hv => by
        have hv' : v ∈ n.kids := by rw [hl]; simp [hv]
        exact PPR_of (by have := Nd.sz_kid hv'; omega) (h2 v hv') (hall v hv) (hnp.2.2 v hv')
      have hln : ln n = x.str ++ 32 :: (n.str ++ 40 :: (join2 [] (r.map parT) ++ (41 :: 32 :: ln z))) := by
        rw [ln_45 hq hl]
        have e1 : (r ++ [z]).dropLast = r := by simp
        have e2 : ((x :: (r ++ [z])).map ln).getLastD [] = ln z := by
          rw [show (x :: (r ++ [z])).map ln = (ln x :: r.map ln) ++ [ln z] by simp, List.getLastD_eq_getLast?, List.getLast?_concat]; rfl
        rw [e1, e2]
      rw [hln]
      refine Res.bind h0 (s_function2 hf.k (by omega) hxs hl hpp lz h0.b) fun H1 s1 => ?_
      exact Res.fin' hB h s1 rfl
    · -- block
      obtain ⟨h1, h2⟩ := okL_S ho (by omega)
      have hall : ∀ y ∈ n.kids, isS y = true ∨ y.kind = 42 := by unfold statsP at h1; simp [hq] at h1; exact h1.2
      rw [ln_47 hq]
      refine Res.bind h0 (s_putR _ h0.b (by decide)) fun H1 s1 => ?_
      refine Res.bind s1 (s_allR hf.k (fun x hx => kl x hx (by
        rcases hall x hx with h | h
        · exact okL_kid (h2 x hx) h
        · exact okL_42 (h2 x hx) h)) n.nil s1.b) fun H2 s2 => ?_
      refine Res.bind s2 (s_putR _ s2.b (by decide)) fun H3 s3 => ?_
      exact Res.fin' hB h s3 (by simp)
    · -- an expression's
      obtain ⟨h1, h2⟩ := okL_S ho (by omega)
      unfold statsP at h1
      simp only [Bool.and_eq_true, hq, Int.reduceEq, if_false, if_true] at h1
      have h1 := h1.2
      rw [shape1] at h1
      simp only [Bool.and_eq_true, decide_eq_true_eq] at h1
      obtain ⟨x, hl⟩ := len1 h1.1
      rw [hl] at h1 h2
      have hpx := ke x (by rw [hl]; simp) (okE_kid (h2 x (by simp)) (by simpa using h1.2))
      rw [ln_48 hq hl]
      simp -implicitDefEqProofs only [hl, bind_ok, onO_some, Locs.find, beq_self_eq_true, if_true, Nat.reduceBEq, Bool.false_eq_true, if_false, ldc_cs, ldc_cs0, ldc_cs1, ldc_cs2, ldc_cs3, ldc_cs4, index_kv0, index_kv1, index_kv2, index_kv3, load_cs, load_cs0, load_cs0', load_cs1, load_cs2, load_cs3, load_cs4, fa_iptr, List.getD_cons_zero, List.getD_cons_succ, cond_tt, cond_ff, fill1, fill2, fill3, fill4, chunks1, chunks2, chunks3, chunks4, nil_ref, fa_ref, Nat.add_zero, stc_av6, bin_eql, Int.reduceBEq]
      refine Res.bind h0 (at0R hpx h0.b) fun H1 s1 => ?_
      refine Res.bind s1 (s_putR _ s1.b (by decide)) fun H2 s2 => ?_
      exact Res.fin' hB h s2 (by simp)
    · rw [ln_53 hq]
      refine Res.bind h0 (s_putR _ h0.b (by decide)) fun H1 s1 => ?_
      exact Res.fin' hB h s1 rfl
    · rw [ln_54 hq]
      refine Res.bind h0 (s_putR _ h0.b (by decide)) fun H1 s1 => ?_
      exact Res.fin' hB h s1 rfl
    · -- return
      obtain ⟨h1, h2⟩ := okL_S ho (by omega)
      unfold statsP at h1
      simp only [Bool.and_eq_true, hq, Int.reduceEq, if_false, if_true, decide_eq_true_eq] at h1
      have h1 := h1.2
      match hl : n.kids with
      | [] =>
        rw [ln_55 hq hl]
        refine Res.bind h0 (s_putR _ h0.b (by decide)) fun H1 s1 => ?_
        have e1 : ((([] : List Nd).length : Int) == 1) = false := rfl
        simp -implicitDefEqProofs only [len_kv, hl, e1, bind_ok, onO_some, Locs.find, beq_self_eq_true, if_true, Nat.reduceBEq, Bool.false_eq_true, if_false, ldc_cs, ldc_cs0, ldc_cs1, ldc_cs2, ldc_cs3, ldc_cs4, index_kv0, index_kv1, index_kv2, index_kv3, load_cs, load_cs0, load_cs0', load_cs1, load_cs2, load_cs3, load_cs4, fa_iptr, List.getD_cons_zero, List.getD_cons_succ, cond_tt, cond_ff, fill1, fill2, fill3, fill4, chunks1, chunks2, chunks3, chunks4, nil_ref, fa_ref, Nat.add_zero, stc_av6, bin_eql, Int.reduceBEq]
        refine Res.bind s1 (s_putR _ s1.b (by decide)) fun H2 s2 => ?_
        exact Res.fin' hB h s2 (by simp)
      | [x] =>
        rw [hl] at h1 h2
        have hpx := ke x (by rw [hl]; simp) (okE_kid (h2 x (by simp)) (by simpa using h1.2))
        rw [ln_55' hq hl]
        refine Res.bind h0 (s_putR _ h0.b (by decide)) fun H1 s1 => ?_
        have e1 : ((([x] : List Nd).length : Int) == 1) = true := rfl
        simp -implicitDefEqProofs only [len_kv, hl, e1, bind_ok, onO_some, Locs.find, beq_self_eq_true, if_true, Nat.reduceBEq, Bool.false_eq_true, if_false, ldc_cs, ldc_cs0, ldc_cs1, ldc_cs2, ldc_cs3, ldc_cs4, index_kv0, index_kv1, index_kv2, index_kv3, load_cs, load_cs0, load_cs0', load_cs1, load_cs2, load_cs3, load_cs4, fa_iptr, List.getD_cons_zero, List.getD_cons_succ, cond_tt, cond_ff, fill1, fill2, fill3, fill4, chunks1, chunks2, chunks3, chunks4, nil_ref, fa_ref, Nat.add_zero, stc_av6, bin_eql, Int.reduceBEq]
        refine Res.bind s1 (s_putR _ s1.b (by decide)) fun H2 s2 => ?_
        simp -implicitDefEqProofs only [hl, bind_ok, onO_some, Locs.find, beq_self_eq_true, if_true, Nat.reduceBEq, Bool.false_eq_true, if_false, ldc_cs, ldc_cs0, ldc_cs1, ldc_cs2, ldc_cs3, ldc_cs4, index_kv0, index_kv1, index_kv2, index_kv3, load_cs, load_cs0, load_cs0', load_cs1, load_cs2, load_cs3, load_cs4, fa_iptr, List.getD_cons_zero, List.getD_cons_succ, cond_tt, cond_ff, fill1, fill2, fill3, fill4, chunks1, chunks2, chunks3, chunks4, nil_ref, fa_ref, Nat.add_zero, stc_av6, bin_eql, Int.reduceBEq]
        refine Res.bind s2 (at0R hpx s2.b) fun H3 s3 => ?_
        refine Res.bind s3 (s_putR _ s3.b (by decide)) fun H4 s4 => ?_
        exact Res.fin' hB h s4 (by simp)
      | x :: y :: r => rw [hl] at h1; simp at h1; omega
    · rw [ln_56 hq]
      refine Res.bind h0 (s_putR _ h0.b (by decide)) fun H1 s1 => ?_
      exact Res.fin' hB h s1 rfl
end
theorem s_printR {n : Nd} (hs : n.sz < 67108864) (hn : numB n = true) (H : Heap) : W m 6 [n.av] H = .ok (.tup [.str (prOut n).1, .int .i64 (prOut n).2], H) := by
  have a1 := fun H => s_checkR (m := m) (n := n) (by omega) H
  have hnp := numB_parts hn
  rw [n.av_eq]
  refine c6 rfl n.kind n.str n.num n.flag _ n.pos H ?_
  unfold g6 prOut
  simp only [fold_cs, fold_av]
  cases hck : checkP n with
  | false =>
    simp -implicitDefEqProofs [a1, hck]
    exact gc_tup_si [] 80 (Nat.le_refl _)
  | true =>
    obtain ⟨_, hkids⟩ := check_parts hck
    have hb : Buf H.n (H.start.alloc (.cells 43 [nilSlice])) H.n [] := ⟨Nat.le_refl _, by simp [Heap.alloc], by simp [Heap.alloc], 43, nilSlice, by rw [Heap.get_alloc, if_pos (show H.n = H.start.n from rfl)], .inl ⟨rfl, rfl⟩, fun _ h => by simp [nilSlice] at h, rfl, rfl⟩
    obtain ⟨H1, e1, hb1, _⟩ := s_allR (m := m) (l := n.kids) (fit_of (n := n) (by omega)).k (fun x hx => s_lineR x.sz x (Nat.le_refl _) (by have := Nd.sz_kid hx; omega) (hkids x hx) (hnp.2.2 x hx)) n.nil (⟨[], hb, .inl rfl⟩ : RBuf H.n _ H.n [])
    rw [List.nil_append] at hb1
    obtain ⟨t', hb1, hrt⟩ := hb1
    obtain ⟨v, l1, l2, l3, _⟩ := hb1.load
    have hlow := hb1.lw
    have e1 : callW (X0 (gl m) pr) 16 [.ref H.n 0, kv n.nil n.kids] (H.start.alloc (.cells 43 [nilSlice])) = .ok (.tup [], H1) := e1
    simp -implicitDefEqProofs only [a1, bind_ok, hck, if_true, bin_neq, bne, beq_self_eq_true, Bool.not_true, cond_ff, start_n, e1, l1, l2, bin_gtr, gt_iff_lt]
    by_cases hlen : 1048576 < (prText n).length
    · have hd : decide ((1048576 : Int) < (t'.length : Int)) = true := decide_eq_true (by
        rcases hrt with rfl | ⟨h1, h2⟩
        · unfold prText at hlen; omega
        · omega)
      simp -implicitDefEqProofs only [hd, cond_tt, hlen, if_true]
      rw [gc_tup_si [] 3 hlow]
    · have ht : t' = prText n := by
        rcases hrt with rfl | ⟨h1, h2⟩
        · rfl
        · unfold prText at hlen; omega
      subst ht
      have hd : decide ((1048576 : Int) < ((prText n).length : Int)) = false := decide_eq_false (by omega)
      simp -implicitDefEqProofs only [hd, cond_ff, hlen, if_false, l1, l3, bind_ok]
      rw [gc_tup_si _ 0 hlow]
end Go.Proofs.YtnhblghplohonaaGreatDoor.Ab
