/- Walks: the printer's statements, but for their recursion. -/
import Derived.Test.YtnhblghplohonaaGreatDoorAbW4
import Derived.Test.YtnhblghplohonaaGreatDoorAbR2
set_option linter.unusedSimpArgs false
set_option linter.unusedVariables false
namespace Go.Proofs.YtnhblghplohonaaGreatDoor.Ab
open Go
variable {m : Int}

theorem sepP {lo p : Nat} {H0 H1 : Heap} {t1 : List UInt8} (sep : List UInt8) (hs : St p (PB lo p) H0 H1 t1) (i : Nat) (hc : t1.length + (if i = 0 then [] else sep).length ≤ 1099511627776) :
    ∃ H2, St p (PB lo p) H0 H2 (t1 ++ (if i = 0 then [] else sep)) ∧ ∀ (K : Heap → Out Ans), (if i = 0 then K H1 else (W m 31 [.ref p 0, .isl 1 [.str sep]] H1).bind fun r => K r.2) = K H2 := by
  by_cases h0 : i = 0
  · exact ⟨H1, by simpa [h0] using hs, fun K => by rw [if_pos h0]⟩
  · rw [if_neg h0] at hc
    obtain ⟨H2, e, hb, hw⟩ := put1 (m := m) (lo := lo) (p := p) sep hs.b hc
    refine ⟨H2, ⟨by rw [if_neg h0]; exact hb, ?_⟩, fun K => by rw [if_neg h0, e]; rfl⟩
    rcases hw with hw | rfl
    · exact .inl hw
    · exact hs.w
/-- What 'line' does at a node. -/
def LX (m : Int) (n : Nd) : Prop := ∀ (lo p : Nat) (H : Heap) (t : List UInt8), Buf lo H p t → t.length + (ln n).length ≤ 1099511627776 → Res p (PB lo p) H (t ++ ln n) (W m 22 [.ref p 0, n.av] H)
/-- An expression that can be printed. -/
structure PE (m : Int) (n : Nd) : Prop where
  x : EX m n
  s : n.str.length < 1073741824
  l : lvOk n
section
variable {lo p : Nat} {H : Heap} {t : List UInt8}
theorem at0 {n : Nd} (hx : PE m n) (h : Buf lo H p t) (hc : t.length + (tx n).length ≤ 1099511627776) : Res p (PB lo p) H (t ++ tx n) (W m 54 [.ref p 0, n.av, .int .i64 0] H) := by
  have := s_at hx.x hx.s hx.l 0 h (by rw [par_0]; exact hc)
  rwa [par_0] at this
theorem Res.st {B : Heap → List UInt8 → Prop} {H0 H1 : Heap} {t1 t2 : List UInt8} {x : Out Ans} (hs : St p B H0 H1 t1) (h : Res p B H1 t2 x) : ∃ H2, x = .ok (.tup [], H2) ∧ St p B H0 H2 t2 := by
  obtain ⟨H2, e, hb, hw⟩ := h
  refine ⟨H2, e, hb, ?_⟩
  rcases hw with hw | rfl
  · exact .inl hw
  · exact hs.w
theorem s_all {l : List Nd} (hl : l.length < 1099511627776) (hx : ∀ x ∈ l, LX m x) (b : Bool) (h : Buf lo H p t) (hc : t.length + (l.map ln).flatten.length ≤ 1099511627776) :
    Res p (PB lo p) H (t ++ (l.map ln).flatten) (W m 14 [.ref p 0, kv b l] H) := by
  refine Res.call (fun r hr => c14 rfl _ _ H hr) ?_
  unfold g14
  have key : ∀ k i H1 t1 L, i + k = l.length → St p (PB lo p) H H1 t1 → t1.length + ((l.drop i).map ln).flatten.length ≤ 1099511627776 →
      Res p (PB lo p) H (t1 ++ ((l.drop i).map ln).flatten) (loopW (g14_l1 (W m) loopW H) ([.ref p 0, kv b l, .int .i64 l.length, .int .i64 (i : Nat)], L, H1)) := by
    intro k
    induction k with
    | zero =>
      intro i H1 t1 L hi hs hc
      refine Res.done (x := .ok (gc (.tup []) H H1)) (fun k => ?_) ?_
      · unfold g14_l1
        simp -implicitDefEqProofs [show ¬ i < l.length by omega]
      · rw [List.drop_eq_nil_of_le (by omega)]
        exact Res.fin' (buf_like lo p) h hs (by simp)
    | succ k ih =>
      intro i H1 t1 L hi hs hc
      have hil : i < l.length := by omega
      rw [List.drop_eq_getElem_cons hil, List.map_cons, List.flatten_cons] at hc ⊢
      rw [List.length_append] at hc
      have hz' : M.stc 6 [.int .i64 0, .str [], .int .u32 0, .bool false, nilSlice, .int .i64 0] 0 l[i].av = .ok l[i].cs := stc_av6 ..
      obtain ⟨H3, e3, hs3⟩ := Res.st hs (hx l[i] (List.getElem_mem hil) lo p H1 t1 hs.b (by omega))
      refine Res.step (s' := ([.ref p 0, kv b l, .int .i64 l.length, .int .i64 ((i + 1 : Nat) : Int)], Locs.put (Locs.put L 5 [.int .i64 0, .str [], .int .u32 0, .bool false, nilSlice, .int .i64 0]) 5 l[i].cs, H3)) (fun k => ?_) ?_
      · have w1 := wrap_i64 (x := (i : Int) + 1) (by omega) (by omega)
        have hlt : decide ((i : Int) < l.length) = true := decide_eq_true (by omega)
        unfold g14_l1
        simp -implicitDefEqProofs only [List.getD_cons_zero, List.getD_cons_succ, bin_lss, bind_ok, hlt, cond_tt, index_kvn hil, load_cs, locs_put, onO_some, hz', ldc_cs, e3, bin_add, w1, Int.natCast_add, Int.natCast_one]
      · have := ih (i + 1) H3 _ (Locs.put (Locs.put L 5 [.int .i64 0, .str [], .int .u32 0, .bool false, nilSlice, .int .i64 0]) 5 l[i].cs) (by omega) hs3 (by rw [List.length_append]; omega)
        simpa only [List.append_assoc] using this
  simp -implicitDefEqProofs only [len_kv, bind_ok]
  have := key l.length 0 H.start t [] (by simp) (St.init (buf_like lo p) h) (by simpa using hc)
  simpa using this
theorem s_blockP {l : List Nd} (hl : l.length < 1099511627776) (hx : ∀ x ∈ l, LX m x) (b : Bool) (h : Buf lo H p t) (hc : t.length + ((l.map ln).flatten.length + 3) ≤ 1099511627776) :
    Res p (PB lo p) H (t ++ 123 :: 10 :: ((l.map ln).flatten ++ [125])) (W m 33 [.ref p 0, kv b l] H) := by
  refine Res.call (fun r hr => c33 rfl _ _ H hr) ?_
  unfold g33
  refine Res.bind (St.init (buf_like lo p) h) (put1 [123, 10] h.start (by simp; omega)) fun H1 s1 => ?_
  refine Res.bind s1 (s_all hl hx b s1.b (by simp at hc ⊢; omega)) fun H2 s2 => ?_
  refine Res.bind s2 (put1 [125] s2.b (by simp at hc ⊢; omega)) fun H3 s3 => ?_
  exact Res.fin' (buf_like lo p) h s3 (by simp)
theorem s_head {n : Nd} (hx : PE m n) (w e : List UInt8) (h : Buf lo H p t) (hc : t.length + (w.length + (tx n).length + e.length + 3) ≤ 1099511627776) :
    Res p (PB lo p) H (t ++ (w ++ 32 :: 40 :: (tx n ++ 41 :: e))) (W m 30 [.ref p 0, .str w, n.av, .str e] H) := by
  rw [n.av_eq]
  refine Res.call (fun r hr => c30 rfl _ _ n.kind n.str n.num n.flag _ n.pos _ H hr) ?_
  unfold g30
  simp only [fold_cs, fold_av]
  refine Res.bind (St.init (buf_like lo p) h) (put2 w [32, 40] h.start (by simp; omega)) fun H1 s1 => ?_
  refine Res.bind s1 (at0 hx s1.b (by simp; omega)) fun H2 s2 => ?_
  refine Res.bind s2 (put2 [41] e s2.b (by simp; omega)) fun H3 s3 => ?_
  exact Res.fin' (buf_like lo p) h s3 (by simp)
/-- A variable whose parts can be printed. -/
structure PV (m : Int) (v : Nd) : Prop where
  s : v.str.length < 1073741824
  f : v.flag = true → ∃ x r, v.kids = x :: r ∧ (x.kind = 56 ∨ (x.kind ≠ 56 ∧ PE m x)) ∧ (r = [] ∨ ∃ y, r = [y] ∧ (y.kind = 44 ∧ y.kids.length < 1099511627776 ∧ (∀ z ∈ y.kids, PE m z) ∨ y.kind ≠ 44 ∧ PE m y))
  n : v.flag = false → v.kids = [] ∨ ∃ y, v.kids = [y] ∧ y.kind ≠ 44 ∧ PE m y
theorem s_var {v : Nd} (hv : PV m v) (h : Buf lo H p t) (hc : t.length + (varT v).length ≤ 1099511627776) :
    Res p (PB lo p) H (t ++ varT v) (W m 34 [.ref p 0, v.av] H) := by
  have hB := buf_like lo p
  unfold varT at hc ⊢
  rw [List.length_append] at hc
  rw [v.av_eq]
  refine Res.call (fun r hr => c34 rfl _ v.kind v.str v.num v.flag _ v.pos H hr) ?_
  unfold g34 jn
  simp only [fold_cs, fold_av]
  refine Res.bind (St.init hB h) (put1 v.str h.start (by omega)) fun H1 s1 => ?_
  cases hf : v.flag with
  | false =>
    rw [hf] at hc
    simp only [Bool.false_eq_true, if_false] at hc ⊢
    rcases hv.n hf with hl | ⟨y, hl, hk, hy⟩
    · simp -implicitDefEqProofs only [hl, len_kv, List.length_nil, Int.natCast_zero, bind_ok, onO_some, Locs.find, beq_self_eq_true, if_true, Nat.reduceBEq, Bool.false_eq_true, if_false, ldc_cs, ldc_cs0, ldc_cs1, ldc_cs2, ldc_cs3, ldc_cs4, index_kv0, index_kv1, index_kv2, index_kv3, load_cs, load_cs0, load_cs0', load_cs1, load_cs2, load_cs3, load_cs4, fa_iptr, List.getD_cons_zero, List.getD_cons_succ, cond_tt, cond_ff, fill1, fill2, fill3, fill4, chunks1, chunks2, chunks3, chunks4, nil_ref, fa_ref, Nat.add_zero, stc_av6, bin_eql, Int.reduceBEq]
      exact Res.fin' hB h s1 (by simp [iniT])
    · rw [hl] at hc ⊢
      simp only [iniT, if_neg hk, List.length_cons] at hc ⊢
      have e1 : ((([y] : List Nd).length : Int) == 0) = false := rfl
      simp -implicitDefEqProofs only [len_kv, e1, bind_ok, onO_some, Locs.find, beq_self_eq_true, if_true, Nat.reduceBEq, Bool.false_eq_true, if_false, ldc_cs, ldc_cs0, ldc_cs1, ldc_cs2, ldc_cs3, ldc_cs4, index_kv0, index_kv1, index_kv2, index_kv3, load_cs, load_cs0, load_cs0', load_cs1, load_cs2, load_cs3, load_cs4, fa_iptr, List.getD_cons_zero, List.getD_cons_succ, cond_tt, cond_ff, fill1, fill2, fill3, fill4, chunks1, chunks2, chunks3, chunks4, nil_ref, fa_ref, Nat.add_zero, stc_av6, bin_eql, Int.reduceBEq]
      refine Res.bind s1 (put1 [32, 61, 32] s1.b (by simp; omega)) fun H2 s2 => ?_
      simp -implicitDefEqProofs only [beq_eq_false_iff_ne.2 hk, bind_ok, onO_some, Locs.find, beq_self_eq_true, if_true, Nat.reduceBEq, Bool.false_eq_true, if_false, ldc_cs, ldc_cs0, ldc_cs1, ldc_cs2, ldc_cs3, ldc_cs4, index_kv0, index_kv1, index_kv2, index_kv3, load_cs, load_cs0, load_cs0', load_cs1, load_cs2, load_cs3, load_cs4, fa_iptr, List.getD_cons_zero, List.getD_cons_succ, cond_tt, cond_ff, fill1, fill2, fill3, fill4, chunks1, chunks2, chunks3, chunks4, nil_ref, fa_ref, Nat.add_zero, stc_av6, bin_eql, Int.reduceBEq]
      refine Res.bind s2 (at0 hy s2.b (by simp; omega)) fun H3 s3 => ?_
      exact Res.fin' hB h s3 (by simp)
  | true =>
    obtain ⟨x, r, hl, hx, hr⟩ := hv.f hf
    rw [hf, hl] at hc
    simp only [if_true, List.length_cons, List.length_append] at hc
    simp only [if_true, hl]
    simp -implicitDefEqProofs only [bind_ok, onO_some, Locs.find, beq_self_eq_true, if_true, Nat.reduceBEq, Bool.false_eq_true, if_false, ldc_cs, ldc_cs0, ldc_cs1, ldc_cs2, ldc_cs3, ldc_cs4, index_kv0, index_kv1, index_kv2, index_kv3, load_cs, load_cs0, load_cs0', load_cs1, load_cs2, load_cs3, load_cs4, fa_iptr, List.getD_cons_zero, List.getD_cons_succ, cond_tt, cond_ff, fill1, fill2, fill3, fill4, chunks1, chunks2, chunks3, chunks4, nil_ref, fa_ref, Nat.add_zero, stc_av6, bin_eql, Int.reduceBEq]
    refine Res.bind s1 (put1 [91] s1.b (by simp; omega)) fun H2 s2 => ?_
    -- behind the size
    have tail : ∀ H3 (o1 o2 : Operand), St p (PB lo p) H H3 (t ++ v.str ++ [91] ++ optT x) → Res p (PB lo p) H (t ++ (v.str ++ 91 :: (optT x ++ 93 :: iniT r)))
        ((W m 31 [.ref p 0, .isl 1 [.str [93]]] H3).bind fun r22 => (M.sliceSl 6 (kv v.nil (x :: r)) (some (.int .i64 1)) none).bind fun v23 =>
          (M.len false v23).bind fun v3 => (M.bin Tryz.prog .eql 3 o1 (.const (.int .i64 0)) v3 (.int .i64 0)).bind fun v4 => condEv v4 (.ok (gc (.tup []) H r22.2))
            ((W m 31 [.ref p 0, .isl 1 [.str [32, 61, 32]]] r22.2).bind fun r5 => (M.indexSl 6 v23 (.int .i64 0)).bind fun v6 => (M.fieldAddr 0 v6).bind fun v7 => (M.load false 1 v7 r5.2).bind fun v8 =>
              (M.bin Tryz.prog .eql 3 o2 (.const (.int .i64 44)) v8 (.int .i64 44)).bind fun v9 => condEv v9
                ((W m 31 [.ref p 0, .isl 1 [.str [123]]] r5.2).bind fun r10 => (M.indexSl 6 v23 (.int .i64 0)).bind fun v11 => (M.fieldAddr 4 v11).bind fun v12 => (M.load false 1 v12 r10.2).bind fun v13 =>
                  (W m 55 [.ref p 0, v13] r10.2).bind fun r14 => (W m 31 [.ref p 0, .isl 1 [.str [125]]] r14.2).bind fun r15 => .ok (gc (.tup []) H r15.2))
                ((M.indexSl 6 v23 (.int .i64 0)).bind fun v16 => (M.load true 6 v16 r5.2).bind fun v17 => (W m 54 [.ref p 0, v17, .int .i64 0] r5.2).bind fun r18 => .ok (gc (.tup []) H r18.2)))) := by
      intro H3 o1 o2 s3
      refine Res.bind s3 (put1 [93] s3.b (by simp; omega)) fun H4 s4 => ?_
      obtain ⟨b', hb⟩ := slice_kv_1 v.nil x r
      rcases hr with rfl | ⟨y, rfl, hy⟩
      · simp -implicitDefEqProofs only [hb, len_kv, List.length_nil, Int.natCast_zero, bind_ok, onO_some, Locs.find, beq_self_eq_true, if_true, Nat.reduceBEq, Bool.false_eq_true, if_false, ldc_cs, ldc_cs0, ldc_cs1, ldc_cs2, ldc_cs3, ldc_cs4, index_kv0, index_kv1, index_kv2, index_kv3, load_cs, load_cs0, load_cs0', load_cs1, load_cs2, load_cs3, load_cs4, fa_iptr, List.getD_cons_zero, List.getD_cons_succ, cond_tt, cond_ff, fill1, fill2, fill3, fill4, chunks1, chunks2, chunks3, chunks4, nil_ref, fa_ref, Nat.add_zero, stc_av6, bin_eql, Int.reduceBEq]
        exact Res.fin' hB h s4 (by simp [iniT])
      · have e1 : ((([y] : List Nd).length : Int) == 0) = false := rfl
        simp -implicitDefEqProofs only [hb, len_kv, e1, bind_ok, onO_some, Locs.find, beq_self_eq_true, if_true, Nat.reduceBEq, Bool.false_eq_true, if_false, ldc_cs, ldc_cs0, ldc_cs1, ldc_cs2, ldc_cs3, ldc_cs4, index_kv0, index_kv1, index_kv2, index_kv3, load_cs, load_cs0, load_cs0', load_cs1, load_cs2, load_cs3, load_cs4, fa_iptr, List.getD_cons_zero, List.getD_cons_succ, cond_tt, cond_ff, fill1, fill2, fill3, fill4, chunks1, chunks2, chunks3, chunks4, nil_ref, fa_ref, Nat.add_zero, stc_av6, bin_eql, Int.reduceBEq]
        rcases hy with ⟨hk, hyl, hy⟩ | ⟨hk, hy⟩
        · simp only [iniT, if_pos hk, List.length_cons, List.length_append, List.length_nil] at hc ⊢
          refine Res.bind s4 (put1 [32, 61, 32] s4.b (by simp; omega)) fun H5 s5 => ?_
          simp -implicitDefEqProofs only [hk, bind_ok, onO_some, Locs.find, beq_self_eq_true, if_true, Nat.reduceBEq, Bool.false_eq_true, if_false, ldc_cs, ldc_cs0, ldc_cs1, ldc_cs2, ldc_cs3, ldc_cs4, index_kv0, index_kv1, index_kv2, index_kv3, load_cs, load_cs0, load_cs0', load_cs1, load_cs2, load_cs3, load_cs4, fa_iptr, List.getD_cons_zero, List.getD_cons_succ, cond_tt, cond_ff, fill1, fill2, fill3, fill4, chunks1, chunks2, chunks3, chunks4, nil_ref, fa_ref, Nat.add_zero, stc_av6, bin_eql, Int.reduceBEq]
          refine Res.bind s5 (put1 [123] s5.b (by simp; omega)) fun H6 s6 => ?_
          simp -implicitDefEqProofs only [bind_ok, onO_some, Locs.find, beq_self_eq_true, if_true, Nat.reduceBEq, Bool.false_eq_true, if_false, ldc_cs, ldc_cs0, ldc_cs1, ldc_cs2, ldc_cs3, ldc_cs4, index_kv0, index_kv1, index_kv2, index_kv3, load_cs, load_cs0, load_cs0', load_cs1, load_cs2, load_cs3, load_cs4, fa_iptr, List.getD_cons_zero, List.getD_cons_succ, cond_tt, cond_ff, fill1, fill2, fill3, fill4, chunks1, chunks2, chunks3, chunks4, nil_ref, fa_ref, Nat.add_zero, stc_av6, bin_eql, Int.reduceBEq]
          refine Res.bind s6 (s_list hyl (fun z hz => ⟨(hy z hz).x, (hy z hz).s, (hy z hz).l⟩) y.nil s6.b (by simp; omega)) fun H7 s7 => ?_
          refine Res.bind s7 (put1 [125] s7.b (by simp; omega)) fun H8 s8 => ?_
          exact Res.fin' hB h s8 (by simp)
        · simp only [iniT, if_neg hk, List.length_cons, List.length_append] at hc ⊢
          refine Res.bind s4 (put1 [32, 61, 32] s4.b (by simp; omega)) fun H5 s5 => ?_
          simp -implicitDefEqProofs only [beq_eq_false_iff_ne.2 hk, bind_ok, onO_some, Locs.find, beq_self_eq_true, if_true, Nat.reduceBEq, Bool.false_eq_true, if_false, ldc_cs, ldc_cs0, ldc_cs1, ldc_cs2, ldc_cs3, ldc_cs4, index_kv0, index_kv1, index_kv2, index_kv3, load_cs, load_cs0, load_cs0', load_cs1, load_cs2, load_cs3, load_cs4, fa_iptr, List.getD_cons_zero, List.getD_cons_succ, cond_tt, cond_ff, fill1, fill2, fill3, fill4, chunks1, chunks2, chunks3, chunks4, nil_ref, fa_ref, Nat.add_zero, stc_av6, bin_eql, Int.reduceBEq]
          refine Res.bind s5 (at0 hy s5.b (by simp; omega)) fun H6 s6 => ?_
          exact Res.fin' hB h s6 (by simp)
    rcases hx with hx | ⟨hx, hpx⟩
    · simp -implicitDefEqProofs only [hx, bin_neq, bne, Bool.not_true, bind_ok, onO_some, Locs.find, beq_self_eq_true, if_true, Nat.reduceBEq, Bool.false_eq_true, if_false, ldc_cs, ldc_cs0, ldc_cs1, ldc_cs2, ldc_cs3, ldc_cs4, index_kv0, index_kv1, index_kv2, index_kv3, load_cs, load_cs0, load_cs0', load_cs1, load_cs2, load_cs3, load_cs4, fa_iptr, List.getD_cons_zero, List.getD_cons_succ, cond_tt, cond_ff, fill1, fill2, fill3, fill4, chunks1, chunks2, chunks3, chunks4, nil_ref, fa_ref, Nat.add_zero, stc_av6, bin_eql, Int.reduceBEq]
      have ho : optT x = [] := by unfold optT; rw [if_pos hx]
      have := tail H2 (.tmp 33) (.tmp 41) (by rw [ho]; simpa using s2)
      simpa only [bin_eql] using this
    · simp -implicitDefEqProofs only [bin_neq, bne, beq_eq_false_iff_ne.2 hx, Bool.not_false, bind_ok, onO_some, Locs.find, beq_self_eq_true, if_true, Nat.reduceBEq, Bool.false_eq_true, if_false, ldc_cs, ldc_cs0, ldc_cs1, ldc_cs2, ldc_cs3, ldc_cs4, index_kv0, index_kv1, index_kv2, index_kv3, load_cs, load_cs0, load_cs0', load_cs1, load_cs2, load_cs3, load_cs4, fa_iptr, List.getD_cons_zero, List.getD_cons_succ, cond_tt, cond_ff, fill1, fill2, fill3, fill4, chunks1, chunks2, chunks3, chunks4, nil_ref, fa_ref, Nat.add_zero, stc_av6, bin_eql, Int.reduceBEq]
      have ho : optT x = tx x := by unfold optT; rw [if_neg hx]
      rw [ho] at hc
      refine Res.bind s2 (at0 hpx s2.b (by simp; omega)) fun H3 s3 => ?_
      have := tail H3 (.tmp 33) (.tmp 41) (by rw [ho]; exact s3)
      simpa only [bin_eql] using this
end
end Go.Proofs.YtnhblghplohonaaGreatDoor.Ab
