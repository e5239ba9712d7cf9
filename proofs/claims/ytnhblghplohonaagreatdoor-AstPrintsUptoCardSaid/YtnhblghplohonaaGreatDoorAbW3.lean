/- Walks: the printer's expressions without operators. -/
import Derived.Test.YtnhblghplohonaaGreatDoorAbW2
set_option linter.unusedSimpArgs false
set_option linter.unusedVariables false
namespace Go.Proofs.YtnhblghplohonaaGreatDoor.Ab
open Go
variable {m : Int}

def isSimple (n : Nd) : Bool := decide (n.kind ≤ 8) || n.kind == 16
theorem u32_nat {n : Int} (h0 : 0 ≤ n) : n = ((n.toNat : Nat) : Int) := by omega
theorem hex_slice {k k' : IntKind} {j : Nat} (h : j < 16) : M.sliceStr (.str hexL) (some (.int k (j : Int))) (some (.int k' ((j : Int) + 1))) = .ok (.str [hexd j]) := by
  have : hexL.length = 16 := rfl
  rw [slice_str (by omega) (by omega) (by omega)]
  have hj : j < hexL.length := by omega
  rw [show ((j : Int) + 1).toNat = j + 1 by omega, show ((j : Int)).toNat = j by omega]
  have hd : hexd j = hexL[j] := by unfold hexd; rw [List.getD_eq_getElem?_getD, List.getElem?_eq_getElem hj]; rfl
  have e : (hexL.take (j + 1)).drop j = [hexL[j]] := by rw [List.drop_take, show j + 1 - j = 1 by omega, List.drop_eq_getElem_cons hj]; rfl
  rw [hd, e]
theorem s_simple {n : Nd} (hs : n.sz < 67108864) (ho : okE n = true) (hnum : 0 ≤ n.num ∧ n.num < 4294967296) (ih : ∀ x ∈ n.kids, okE x = true → EX m x) {lo p : Nat} {H : Heap} {t : List UInt8} (h : Buf lo H p t) (hc : t.length + (tx n).length ≤ 1099511627776) :
    ResV p (PB lo p) H (if isSimple n then t ++ tx n else t) (.bool (isSimple n)) (W m 103 [.ref p 0, n.av] H) := by
  have hn := fit_of (n := n) (by omega)
  have hsn := hn.s
  have hpo := okE_parts ho
  have kid : ∀ x ∈ n.kids, okE x = true → EX m x ∧ x.str.length < 1073741824 ∧ lvOk x := fun x hx hox => ⟨ih x hx hox, (fit_of (by have := Nd.sz_kid hx; omega)).s, okE_lv hox⟩
  have hB := buf_like lo p
  rw [n.av_eq]
  refine ResV.call (fun r hr => c103 rfl _ n.kind n.str n.num n.flag _ n.pos H hr) ?_
  unfold g103 jn
  simp only [fold_cs, fold_av]
  have h0 := St.init hB h
  rcases (by omega : n.kind = 1 ∨ n.kind = 2 ∨ n.kind = 3 ∨ n.kind = 4 ∨ n.kind = 5 ∨ n.kind = 6 ∨ n.kind = 7 ∨ n.kind = 8 ∨ 9 ≤ n.kind) with hk | hk | hk | hk | hk | hk | hk | hk | hk
  rotate_right
  · have hsi : isSimple n = false := by unfold isSimple; simp; omega
    rw [hsi]
    simp -implicitDefEqProofs only [beq_eq_false_iff_ne.2 (show n.kind ≠ 1 by omega), beq_eq_false_iff_ne.2 (show n.kind ≠ 2 by omega), beq_eq_false_iff_ne.2 (show n.kind ≠ 3 by omega), beq_eq_false_iff_ne.2 (show n.kind ≠ 4 by omega), beq_eq_false_iff_ne.2 (show n.kind ≠ 5 by omega), beq_eq_false_iff_ne.2 (show n.kind ≠ 6 by omega), beq_eq_false_iff_ne.2 (show n.kind ≠ 7 by omega), beq_eq_false_iff_ne.2 (show n.kind ≠ 8 by omega), beq_eq_false_iff_ne.2 (show n.kind ≠ 16 by omega), bind_ok, onO_some, Locs.find, beq_self_eq_true, if_true, Nat.reduceBEq, Bool.false_eq_true, if_false, ldc_cs, ldc_cs0, ldc_cs1, ldc_cs2, ldc_cs3, ldc_cs4, index_kv0, index_kv1, index_kv2, index_kv3, load_cs, load_cs0, load_cs0', load_cs1, load_cs2, load_cs3, load_cs4, fa_iptr, List.getD_cons_zero, List.getD_cons_succ, cond_tt, cond_ff, fill1, fill2, fill3, fill4, chunks1, chunks2, chunks3, chunks4, nil_ref, fa_ref, Nat.add_zero, stc_av6, bin_eql, Int.reduceBEq]
    exact ResV.fin' hB rfl h h0 rfl
  all_goals
    have hsi : isSimple n = true := by unfold isSimple; rw [hk]; rfl
    rw [hsi, if_pos rfl]
    simp -implicitDefEqProofs only [hk, bind_ok, onO_some, Locs.find, beq_self_eq_true, if_true, Nat.reduceBEq, Bool.false_eq_true, if_false, ldc_cs, ldc_cs0, ldc_cs1, ldc_cs2, ldc_cs3, ldc_cs4, index_kv0, index_kv1, index_kv2, index_kv3, load_cs, load_cs0, load_cs0', load_cs1, load_cs2, load_cs3, load_cs4, fa_iptr, List.getD_cons_zero, List.getD_cons_succ, cond_tt, cond_ff, fill1, fill2, fill3, fill4, chunks1, chunks2, chunks3, chunks4, nil_ref, fa_ref, Nat.add_zero, stc_av6, bin_eql, Int.reduceBEq]
  · -- a number
    rw [tx_1 hk] at hc ⊢
    have hw : IntKind.wrap .u64 n.num = n.num := wrap_u64 (by omega) (by omega)
    have e0 := sFormat (m := m) (n := n.num) (by omega) (by omega) H.start
    simp -implicitDefEqProofs only [hw, e0, bind_ok, onO_some, Locs.find, beq_self_eq_true, if_true, Nat.reduceBEq, Bool.false_eq_true, if_false, ldc_cs, ldc_cs0, ldc_cs1, ldc_cs2, ldc_cs3, ldc_cs4, index_kv0, index_kv1, index_kv2, index_kv3, load_cs, load_cs0, load_cs0', load_cs1, load_cs2, load_cs3, load_cs4, fa_iptr, List.getD_cons_zero, List.getD_cons_succ, cond_tt, cond_ff, fill1, fill2, fill3, fill4, chunks1, chunks2, chunks3, chunks4, nil_ref, fa_ref, Nat.add_zero, stc_av6, bin_eql, Int.reduceBEq]
    rw [List.length_append] at hc
    refine ResV.bindR h0 (put1 _ h.start (by omega)) fun H1 s1 => ?_
    cases hf : n.flag with
    | true =>
      simp -implicitDefEqProofs only [bind_ok, onO_some, Locs.find, beq_self_eq_true, if_true, Nat.reduceBEq, Bool.false_eq_true, if_false, ldc_cs, ldc_cs0, ldc_cs1, ldc_cs2, ldc_cs3, ldc_cs4, index_kv0, index_kv1, index_kv2, index_kv3, load_cs, load_cs0, load_cs0', load_cs1, load_cs2, load_cs3, load_cs4, fa_iptr, List.getD_cons_zero, List.getD_cons_succ, cond_tt, cond_ff, fill1, fill2, fill3, fill4, chunks1, chunks2, chunks3, chunks4, nil_ref, fa_ref, Nat.add_zero, stc_av6, bin_eql, Int.reduceBEq]
      rw [hf] at hc
      refine ResV.bindR s1 (put1 [117] s1.b (by simp at hc ⊢; omega)) fun H2 s2 => ?_
      exact ResV.fin' hB rfl h s2 (by simp)
    | false =>
      simp -implicitDefEqProofs only [bind_ok, onO_some, Locs.find, beq_self_eq_true, if_true, Nat.reduceBEq, Bool.false_eq_true, if_false, ldc_cs, ldc_cs0, ldc_cs1, ldc_cs2, ldc_cs3, ldc_cs4, index_kv0, index_kv1, index_kv2, index_kv3, load_cs, load_cs0, load_cs0', load_cs1, load_cs2, load_cs3, load_cs4, fa_iptr, List.getD_cons_zero, List.getD_cons_succ, cond_tt, cond_ff, fill1, fill2, fill3, fill4, chunks1, chunks2, chunks3, chunks4, nil_ref, fa_ref, Nat.add_zero, stc_av6, bin_eql, Int.reduceBEq]
      exact ResV.fin' hB rfl h s1 (by simp)
  · -- a character
    rw [tx_2 hk] at hc ⊢
    have hlt := okE_ch ho hk
    obtain ⟨u, hu⟩ : ∃ u : Nat, n.num = u := ⟨n.num.toNat, by omega⟩
    have hu2 : u < 256 := by omega
    rw [hu]
    simp only [Int.toNat_natCast]
    have e1 : ((u : Int).fdiv (2 ^ 4)) = ((u / 16 : Nat) : Int) := by
      rw [Int.fdiv_eq_ediv_of_nonneg _ (by decide)]; rfl
    have e2 : IntKind.wrap .u32 (((u / 16 : Nat) : Int) + 1) = ((u / 16 : Nat) : Int) + 1 := wrap_u32 (by omega) (by omega)
    have e3 : IntKind.wrap .u32 (((u % 16 : Nat) : Int) + 1) = ((u % 16 : Nat) : Int) + 1 := wrap_u32 (by omega) (by omega)
    have e4 := fun P t x y => bin_and32 P t x y (n := u) hu2
    rw [fold_hex]
    simp -implicitDefEqProofs only [e1, e2, e3, e4, bin_add, hex_slice (show u / 16 < 16 by omega), hex_slice (show u % 16 < 16 by omega), bind_ok, onO_some, Locs.find, beq_self_eq_true, if_true, Nat.reduceBEq, Bool.false_eq_true, if_false, ldc_cs, ldc_cs0, ldc_cs1, ldc_cs2, ldc_cs3, ldc_cs4, index_kv0, index_kv1, index_kv2, index_kv3, load_cs, load_cs0, load_cs0', load_cs1, load_cs2, load_cs3, load_cs4, fa_iptr, List.getD_cons_zero, List.getD_cons_succ, cond_tt, cond_ff, fill1, fill2, fill3, fill4, chunks1, chunks2, chunks3, chunks4, nil_ref, fa_ref, Nat.add_zero, stc_av6, bin_eql, Int.reduceBEq]
    refine ResV.bindR h0 (put4 [39, 92, 120] _ _ [39] h.start (by simp at hc ⊢; omega)) fun H1 s1 => ?_
    exact ResV.fin' hB rfl h s1 (by simp)
  · -- a string
    rw [tx_3 hk] at hc ⊢
    have e0 := s_quote (m := m) n.str (by omega) H.start
    simp -implicitDefEqProofs only [e0, bind_ok, onO_some, Locs.find, beq_self_eq_true, if_true, Nat.reduceBEq, Bool.false_eq_true, if_false, ldc_cs, ldc_cs0, ldc_cs1, ldc_cs2, ldc_cs3, ldc_cs4, index_kv0, index_kv1, index_kv2, index_kv3, load_cs, load_cs0, load_cs0', load_cs1, load_cs2, load_cs3, load_cs4, fa_iptr, List.getD_cons_zero, List.getD_cons_succ, cond_tt, cond_ff, fill1, fill2, fill3, fill4, chunks1, chunks2, chunks3, chunks4, nil_ref, fa_ref, Nat.add_zero, stc_av6, bin_eql, Int.reduceBEq]
    refine ResV.bindR h0 (put1 _ h.start (by omega)) fun H1 s1 => ?_
    exact ResV.fin' hB rfl h s1 rfl
  · -- a name
    rw [tx_4 hk] at hc ⊢
    refine ResV.bindR h0 (put1 _ h.start (by omega)) fun H1 s1 => ?_
    exact ResV.fin' hB rfl h s1 rfl
  · -- an index
    obtain ⟨x, y, hl, hx, hy⟩ := okE_E2 ho (.inl hk)
    rw [tx_5 hk hl] at hc ⊢
    simp only [List.length_append, List.length_cons, List.length_nil] at hc
    obtain ⟨x1, x2, x3⟩ := kid x (by rw [hl]; simp) hx
    obtain ⟨y1, y2, y3⟩ := kid y (by rw [hl]; simp) hy
    simp -implicitDefEqProofs only [hl, bind_ok, onO_some, Locs.find, beq_self_eq_true, if_true, Nat.reduceBEq, Bool.false_eq_true, if_false, ldc_cs, ldc_cs0, ldc_cs1, ldc_cs2, ldc_cs3, ldc_cs4, index_kv0, index_kv1, index_kv2, index_kv3, load_cs, load_cs0, load_cs0', load_cs1, load_cs2, load_cs3, load_cs4, fa_iptr, List.getD_cons_zero, List.getD_cons_succ, cond_tt, cond_ff, fill1, fill2, fill3, fill4, chunks1, chunks2, chunks3, chunks4, nil_ref, fa_ref, Nat.add_zero, stc_av6, bin_eql, Int.reduceBEq]
    refine ResV.bindR h0 (s_at x1 x2 x3 13 h.start (by omega)) fun H1 s1 => ?_
    refine ResV.bindR s1 (put1 [91] s1.b (by simp; omega)) fun H2 s2 => ?_
    simp -implicitDefEqProofs only [hl, bind_ok, onO_some, Locs.find, beq_self_eq_true, if_true, Nat.reduceBEq, Bool.false_eq_true, if_false, ldc_cs, ldc_cs0, ldc_cs1, ldc_cs2, ldc_cs3, ldc_cs4, index_kv0, index_kv1, index_kv2, index_kv3, load_cs, load_cs0, load_cs0', load_cs1, load_cs2, load_cs3, load_cs4, fa_iptr, List.getD_cons_zero, List.getD_cons_succ, cond_tt, cond_ff, fill1, fill2, fill3, fill4, chunks1, chunks2, chunks3, chunks4, nil_ref, fa_ref, Nat.add_zero, stc_av6, bin_eql, Int.reduceBEq]
    refine ResV.bindR s2 (s_at y1 y2 y3 0 s2.b (by simp; omega)) fun H3 s3 => ?_
    refine ResV.bindR s3 (put1 [93] s3.b (by simp; omega)) fun H4 s4 => ?_
    exact ResV.fin' hB rfl h s4 (by simp)
  · -- a field
    obtain ⟨x, hl, hx⟩ := okE_E1 ho (.inl hk)
    rw [tx_6 hk hl] at hc ⊢
    simp only [List.length_append, List.length_cons, List.length_nil] at hc
    obtain ⟨x1, x2, x3⟩ := kid x (by rw [hl]; simp) hx
    simp -implicitDefEqProofs only [hl, bind_ok, onO_some, Locs.find, beq_self_eq_true, if_true, Nat.reduceBEq, Bool.false_eq_true, if_false, ldc_cs, ldc_cs0, ldc_cs1, ldc_cs2, ldc_cs3, ldc_cs4, index_kv0, index_kv1, index_kv2, index_kv3, load_cs, load_cs0, load_cs0', load_cs1, load_cs2, load_cs3, load_cs4, fa_iptr, List.getD_cons_zero, List.getD_cons_succ, cond_tt, cond_ff, fill1, fill2, fill3, fill4, chunks1, chunks2, chunks3, chunks4, nil_ref, fa_ref, Nat.add_zero, stc_av6, bin_eql, Int.reduceBEq]
    refine ResV.bindR h0 (s_at x1 x2 x3 13 h.start (by omega)) fun H1 s1 => ?_
    simp -implicitDefEqProofs only [hl, bind_ok, onO_some, Locs.find, beq_self_eq_true, if_true, Nat.reduceBEq, Bool.false_eq_true, if_false, ldc_cs, ldc_cs0, ldc_cs1, ldc_cs2, ldc_cs3, ldc_cs4, index_kv0, index_kv1, index_kv2, index_kv3, load_cs, load_cs0, load_cs0', load_cs1, load_cs2, load_cs3, load_cs4, fa_iptr, List.getD_cons_zero, List.getD_cons_succ, cond_tt, cond_ff, fill1, fill2, fill3, fill4, chunks1, chunks2, chunks3, chunks4, nil_ref, fa_ref, Nat.add_zero, stc_av6, bin_eql, Int.reduceBEq]
    refine ResV.bindR s1 (put2 [46] _ s1.b (by simp; omega)) fun H2 s2 => ?_
    exact ResV.fin' hB rfl h s2 (by simp)
  · -- an arrow
    obtain ⟨x, hl, hx⟩ := okE_E1 ho (.inr (.inl hk))
    rw [tx_7 hk hl] at hc ⊢
    simp only [List.length_append, List.length_cons, List.length_nil] at hc
    obtain ⟨x1, x2, x3⟩ := kid x (by rw [hl]; simp) hx
    simp -implicitDefEqProofs only [hl, bind_ok, onO_some, Locs.find, beq_self_eq_true, if_true, Nat.reduceBEq, Bool.false_eq_true, if_false, ldc_cs, ldc_cs0, ldc_cs1, ldc_cs2, ldc_cs3, ldc_cs4, index_kv0, index_kv1, index_kv2, index_kv3, load_cs, load_cs0, load_cs0', load_cs1, load_cs2, load_cs3, load_cs4, fa_iptr, List.getD_cons_zero, List.getD_cons_succ, cond_tt, cond_ff, fill1, fill2, fill3, fill4, chunks1, chunks2, chunks3, chunks4, nil_ref, fa_ref, Nat.add_zero, stc_av6, bin_eql, Int.reduceBEq]
    refine ResV.bindR h0 (s_at x1 x2 x3 13 h.start (by omega)) fun H1 s1 => ?_
    simp -implicitDefEqProofs only [hl, bind_ok, onO_some, Locs.find, beq_self_eq_true, if_true, Nat.reduceBEq, Bool.false_eq_true, if_false, ldc_cs, ldc_cs0, ldc_cs1, ldc_cs2, ldc_cs3, ldc_cs4, index_kv0, index_kv1, index_kv2, index_kv3, load_cs, load_cs0, load_cs0', load_cs1, load_cs2, load_cs3, load_cs4, fa_iptr, List.getD_cons_zero, List.getD_cons_succ, cond_tt, cond_ff, fill1, fill2, fill3, fill4, chunks1, chunks2, chunks3, chunks4, nil_ref, fa_ref, Nat.add_zero, stc_av6, bin_eql, Int.reduceBEq]
    refine ResV.bindR s1 (put2 [45, 62] _ s1.b (by simp; omega)) fun H2 s2 => ?_
    exact ResV.fin' hB rfl h s2 (by simp)
  · -- a call
    have hcall := okE_call ho hk
    rw [tx_8 hk] at hc ⊢
    simp only [List.length_append, List.length_cons, List.length_nil] at hc
    refine ResV.bindR h0 (put2 n.str [40] h.start (by simp; omega)) fun H1 s1 => ?_
    simp -implicitDefEqProofs only [bind_ok, onO_some, Locs.find, beq_self_eq_true, if_true, Nat.reduceBEq, Bool.false_eq_true, if_false, ldc_cs, ldc_cs0, ldc_cs1, ldc_cs2, ldc_cs3, ldc_cs4, index_kv0, index_kv1, index_kv2, index_kv3, load_cs, load_cs0, load_cs0', load_cs1, load_cs2, load_cs3, load_cs4, fa_iptr, List.getD_cons_zero, List.getD_cons_succ, cond_tt, cond_ff, fill1, fill2, fill3, fill4, chunks1, chunks2, chunks3, chunks4, nil_ref, fa_ref, Nat.add_zero, stc_av6, bin_eql, Int.reduceBEq]
    refine ResV.bindR s1 (s_list hn.k (fun x hx => kid x hx (hcall x hx)) n.nil s1.b (by simp; omega)) fun H2 s2 => ?_
    refine ResV.bindR s2 (put1 [41] s2.b (by simp; omega)) fun H3 s3 => ?_
    exact ResV.fin' hB rfl h s3 (by simp)
end Go.Proofs.YtnhblghplohonaaGreatDoor.Ab
