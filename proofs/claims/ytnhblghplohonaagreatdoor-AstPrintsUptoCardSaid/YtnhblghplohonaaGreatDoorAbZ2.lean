/- Walks: the reference's printer, statements. -/
import Derived.Test.YtnhblghplohonaaGreatDoorAbZ1
set_option linter.unusedSimpArgs false
set_option linter.unusedVariables false
namespace Go.Proofs.YtnhblghplohonaaGreatDoor.Ab
open Go
variable {m : Int}
/-- What the reference's 'line' does at a node. -/
def LXR (m : Int) (n : Nd) : Prop := ∀ (lo p : Nat) (H : Heap) (t : List UInt8), RBuf lo H p t → Res p (RB lo p) H (t ++ ln n) (W m 27 [.ref p 0, n.av] H)
section
variable {lo p : Nat} {H : Heap} {t : List UInt8}
theorem s_allR {l : List Nd} (hl : l.length < 1099511627776) (hx : ∀ x ∈ l, LXR m x) (b : Bool) (h : RBuf lo H p t) :
    Res p (RB lo p) H (t ++ (l.map ln).flatten) (W m 16 [.ref p 0, kv b l] H) := by
  refine Res.call (fun r hr => c16 rfl _ _ H hr) ?_
  unfold g16
  have key : ∀ k i H1 t1, i + k = l.length → St p (RB lo p) H H1 t1 →
      Res p (RB lo p) H (t1 ++ ((l.drop i).map ln).flatten) (loopW (g16_l1 (W m) loopW H) ([.ref p 0, kv b l, .int .i64 (i : Nat)], [], H1)) := by
    intro k
    induction k with
    | zero =>
      intro i H1 t1 hi hs
      refine Res.done (x := .ok (gc (.tup []) H H1)) (fun k => ?_) ?_
      · unfold g16_l1
        simp -implicitDefEqProofs [show ¬ i < l.length by omega]
      · rw [List.drop_eq_nil_of_le (by omega)]
        exact Res.fin' (rbuf_like lo p) h hs (by simp)
    | succ k ih =>
      intro i H1 t1 hi hs
      have hil : i < l.length := by omega
      rw [List.drop_eq_getElem_cons hil, List.map_cons, List.flatten_cons]
      obtain ⟨H3, e3, hs3⟩ := Res.st hs (hx l[i] (List.getElem_mem hil) lo p H1 t1 hs.b)
      refine Res.step (s' := ([.ref p 0, kv b l, .int .i64 ((i + 1 : Nat) : Int)], [], H3)) (fun k => ?_) ?_
      · have w1 := wrap_i64 (x := (i : Int) + 1) (by omega) (by omega)
        have hlt : decide ((i : Int) < l.length) = true := decide_eq_true (by omega)
        unfold g16_l1
        simp -implicitDefEqProofs only [List.getD_cons_zero, List.getD_cons_succ, bin_lss, bind_ok, hlt, cond_tt, index_kvn hil, load_cs, len_kv, e3, bin_add, w1, Int.natCast_add, Int.natCast_one]
      · have := ih (i + 1) H3 _ (by omega) hs3
        simpa only [List.append_assoc] using this
  have := key l.length 0 H.start t (by simp) (St.init (rbuf_like lo p) h)
  simpa using this
theorem s_test {n : Nd} (hx : EXR m n) (w e : List UInt8) (hw : w.length ≤ 1000) (he : e.length ≤ 1000) (h : RBuf lo H p t) :
    Res p (RB lo p) H (t ++ (w ++ 32 :: 40 :: (tx n ++ 41 :: e))) (W m 45 [.ref p 0, .str w, n.av, .str e] H) := by
  have hB := rbuf_like lo p
  have h0 := St.init hB h
  rw [n.av_eq]
  refine Res.call (fun r hr => c45 rfl _ _ n.kind n.str n.num n.flag _ n.pos _ H hr) ?_
  unfold g45
  simp only [fold_cs, fold_av]
  have a1 := fun t a b => sadd Tryz.prog t a b (s := w) (u := [32, 40]) (by simp; omega)
  have a2 := fun t a b => sadd Tryz.prog t a b (s := [41]) (u := e) (by simp; omega)
  simp -implicitDefEqProofs only [a1, a2, bind_ok]
  refine Res.bind h0 (s_putR _ h0.b (by simp; omega)) fun H1 s1 => ?_
  refine Res.bind s1 (at0R hx s1.b) fun H2 s2 => ?_
  refine Res.bind s2 (s_putR _ s2.b (by simp; omega)) fun H3 s3 => ?_
  exact Res.fin' hB h s3 (by simp)
/-- A variable whose parts can be printed. -/
structure PVR (m : Int) (v : Nd) : Prop where
  s : v.str.length < 1073741824
  f : v.flag = true → ∃ x r, v.kids = x :: r ∧ (x.kind = 56 ∨ (x.kind ≠ 56 ∧ EXR m x)) ∧ (r = [] ∨ ∃ y, r = [y] ∧ (y.kind = 44 ∧ y.kids.length < 1099511627776 ∧ (∀ z ∈ y.kids, EXR m z) ∨ y.kind ≠ 44 ∧ EXR m y))
  n : v.flag = false → v.kids = [] ∨ ∃ y, v.kids = [y] ∧ y.kind ≠ 44 ∧ EXR m y
theorem s_declared {v : Nd} (hv : PVR m v) (h : RBuf lo H p t) :
    Res p (RB lo p) H (t ++ varT v) (W m 42 [.ref p 0, v.av] H) := by
  have hB := rbuf_like lo p
  have h0 := St.init hB h
  unfold varT
  rw [v.av_eq]
  refine Res.call (fun r hr => c42 rfl _ v.kind v.str v.num v.flag _ v.pos H hr) ?_
  unfold g42 jn
  simp only [fold_cs, fold_av]
  refine Res.bind h0 (s_putR v.str h0.b (by have := hv.s; omega)) fun H1 s1 => ?_
  -- what stands behind '='
  have tail : ∀ (b : Bool) (r : List Nd) (H2 : Heap) (t2 : List UInt8) (o1 o2 : Operand), St p (RB lo p) H H2 t2 → (r = [] ∨ ∃ y, r = [y] ∧ (y.kind = 44 ∧ y.kids.length < 1099511627776 ∧ (∀ z ∈ y.kids, EXR m z) ∨ y.kind ≠ 44 ∧ EXR m y)) →
      Res p (RB lo p) H (t2 ++ iniT r) ((M.bin Tryz.prog .eql 3 o1 (.const (.int .i64 0)) (.int .i64 (r.length : Nat)) (.int .i64 0)).bind fun v4 =>
        condEv v4 (.ok (gc (.tup []) H H2))
        ((W m 41 [.ref p 0, .str [32, 61, 32]] H2).bind fun r5 =>
        (M.indexSl 6 (kv b r) (.int .i64 0)).bind fun v6 => (M.fieldAddr 0 v6).bind fun v7 => (M.load false 1 v7 r5.2).bind fun v8 =>
        (M.bin Tryz.prog .neq 3 o2 (.const (.int .i64 44)) v8 (.int .i64 44)).bind fun v9 =>
        condEv v9
          ((M.indexSl 6 (kv b r) (.int .i64 0)).bind fun v10 => (M.load true 6 v10 r5.2).bind fun v11 =>
            (W m 44 [.ref p 0, v11, .int .i64 0] r5.2).bind fun r12 => .ok (gc (.tup []) H r12.2))
          ((W m 41 [.ref p 0, .str [123]] r5.2).bind fun r13 =>
            (M.indexSl 6 (kv b r) (.int .i64 0)).bind fun v14 => (M.fieldAddr 4 v14).bind fun v15 => (M.load false 1 v15 r13.2).bind fun v16 =>
            (W m 63 [.ref p 0, v16] r13.2).bind fun r17 => (W m 41 [.ref p 0, .str [125]] r17.2).bind fun r18 => .ok (gc (.tup []) H r18.2)))) := by
    intro b r H2 t2 o1 o2 s2 hr
    rcases hr with rfl | ⟨y, rfl, hy⟩
    · simp -implicitDefEqProofs only [List.length_nil, Int.natCast_zero, bind_ok, onO_some, Locs.find, beq_self_eq_true, if_true, Nat.reduceBEq, Bool.false_eq_true, if_false, ldc_cs, ldc_cs0, ldc_cs1, ldc_cs2, ldc_cs3, ldc_cs4, index_kv0, index_kv1, index_kv2, index_kv3, load_cs, load_cs0, load_cs0', load_cs1, load_cs2, load_cs3, load_cs4, fa_iptr, List.getD_cons_zero, List.getD_cons_succ, cond_tt, cond_ff, fill1, fill2, fill3, fill4, chunks1, chunks2, chunks3, chunks4, nil_ref, fa_ref, Nat.add_zero, stc_av6, bin_eql, Int.reduceBEq]
      exact Res.fin' hB h s2 (by simp [iniT])
    · have e1 : ((([y] : List Nd).length : Int) == 0) = false := rfl
      simp -implicitDefEqProofs only [e1, bind_ok, onO_some, Locs.find, beq_self_eq_true, if_true, Nat.reduceBEq, Bool.false_eq_true, if_false, ldc_cs, ldc_cs0, ldc_cs1, ldc_cs2, ldc_cs3, ldc_cs4, index_kv0, index_kv1, index_kv2, index_kv3, load_cs, load_cs0, load_cs0', load_cs1, load_cs2, load_cs3, load_cs4, fa_iptr, List.getD_cons_zero, List.getD_cons_succ, cond_tt, cond_ff, fill1, fill2, fill3, fill4, chunks1, chunks2, chunks3, chunks4, nil_ref, fa_ref, Nat.add_zero, stc_av6, bin_eql, Int.reduceBEq]
      refine Res.bind s2 (s_putR [32, 61, 32] s2.b (by decide)) fun H3 s3 => ?_
      rcases hy with ⟨hk, hyl, hy⟩ | ⟨hk, hy⟩
      · simp -implicitDefEqProofs only [hk, bin_neq, bne, Bool.not_true, bind_ok, onO_some, Locs.find, beq_self_eq_true, if_true, Nat.reduceBEq, Bool.false_eq_true, if_false, ldc_cs, ldc_cs0, ldc_cs1, ldc_cs2, ldc_cs3, ldc_cs4, index_kv0, index_kv1, index_kv2, index_kv3, load_cs, load_cs0, load_cs0', load_cs1, load_cs2, load_cs3, load_cs4, fa_iptr, List.getD_cons_zero, List.getD_cons_succ, cond_tt, cond_ff, fill1, fill2, fill3, fill4, chunks1, chunks2, chunks3, chunks4, nil_ref, fa_ref, Nat.add_zero, stc_av6, bin_eql, Int.reduceBEq]
        refine Res.bind s3 (s_putR [123] s3.b (by decide)) fun H4 s4 => ?_
        simp -implicitDefEqProofs only [bind_ok, onO_some, Locs.find, beq_self_eq_true, if_true, Nat.reduceBEq, Bool.false_eq_true, if_false, ldc_cs, ldc_cs0, ldc_cs1, ldc_cs2, ldc_cs3, ldc_cs4, index_kv0, index_kv1, index_kv2, index_kv3, load_cs, load_cs0, load_cs0', load_cs1, load_cs2, load_cs3, load_cs4, fa_iptr, List.getD_cons_zero, List.getD_cons_succ, cond_tt, cond_ff, fill1, fill2, fill3, fill4, chunks1, chunks2, chunks3, chunks4, nil_ref, fa_ref, Nat.add_zero, stc_av6, bin_eql, Int.reduceBEq]
        refine Res.bind s4 (s_listR hyl hy y.nil s4.b) fun H5 s5 => ?_
        refine Res.bind s5 (s_putR [125] s5.b (by decide)) fun H6 s6 => ?_
        exact Res.fin' hB h s6 (by simp [iniT, hk])
      · simp -implicitDefEqProofs only [bin_neq, bne, beq_eq_false_iff_ne.2 hk, Bool.not_false, bind_ok, onO_some, Locs.find, beq_self_eq_true, if_true, Nat.reduceBEq, Bool.false_eq_true, if_false, ldc_cs, ldc_cs0, ldc_cs1, ldc_cs2, ldc_cs3, ldc_cs4, index_kv0, index_kv1, index_kv2, index_kv3, load_cs, load_cs0, load_cs0', load_cs1, load_cs2, load_cs3, load_cs4, fa_iptr, List.getD_cons_zero, List.getD_cons_succ, cond_tt, cond_ff, fill1, fill2, fill3, fill4, chunks1, chunks2, chunks3, chunks4, nil_ref, fa_ref, Nat.add_zero, stc_av6, bin_eql, Int.reduceBEq]
        refine Res.bind s3 (at0R hy s3.b) fun H4 s4 => ?_
        exact Res.fin' hB h s4 (by simp [iniT, hk])
  cases hf : v.flag with
  | false =>
    simp only [Bool.false_eq_true, if_false]
    have hr : v.kids = [] ∨ ∃ y, v.kids = [y] ∧ (y.kind = 44 ∧ y.kids.length < 1099511627776 ∧ (∀ z ∈ y.kids, EXR m z) ∨ y.kind ≠ 44 ∧ EXR m y) :=
      (hv.n hf).imp id fun ⟨y, h1, h2, h3⟩ => ⟨y, h1, .inr ⟨h2, h3⟩⟩
    have := tail v.nil v.kids H1 _ (.tmp 30) (.tmp 37) s1 hr
    simp -implicitDefEqProofs only [len_kv, bind_ok, List.getD_cons_zero, List.getD_cons_succ, cond_ff]
    rw [← List.append_assoc]
    exact this
  | true =>
    obtain ⟨x, r, hl, hx, hr⟩ := hv.f hf
    simp only [if_true, hl]
    simp -implicitDefEqProofs only [bind_ok, onO_some, Locs.find, beq_self_eq_true, if_true, Nat.reduceBEq, Bool.false_eq_true, if_false, ldc_cs, ldc_cs0, ldc_cs1, ldc_cs2, ldc_cs3, ldc_cs4, index_kv0, index_kv1, index_kv2, index_kv3, load_cs, load_cs0, load_cs0', load_cs1, load_cs2, load_cs3, load_cs4, fa_iptr, List.getD_cons_zero, List.getD_cons_succ, cond_tt, cond_ff, fill1, fill2, fill3, fill4, chunks1, chunks2, chunks3, chunks4, nil_ref, fa_ref, Nat.add_zero, stc_av6, bin_eql, Int.reduceBEq]
    refine Res.bind s1 (s_putR [91] s1.b (by decide)) fun H2 s2 => ?_
    obtain ⟨b', hb⟩ := slice_kv_1 v.nil x r
    rcases hx with hx | ⟨hx, hpx⟩
    · have ho : optT x = [] := by unfold optT; rw [if_pos hx]
      simp -implicitDefEqProofs only [hx, bin_neq, bne, Bool.not_true, bind_ok, onO_some, Locs.find, beq_self_eq_true, if_true, Nat.reduceBEq, Bool.false_eq_true, if_false, ldc_cs, ldc_cs0, ldc_cs1, ldc_cs2, ldc_cs3, ldc_cs4, index_kv0, index_kv1, index_kv2, index_kv3, load_cs, load_cs0, load_cs0', load_cs1, load_cs2, load_cs3, load_cs4, fa_iptr, List.getD_cons_zero, List.getD_cons_succ, cond_tt, cond_ff, fill1, fill2, fill3, fill4, chunks1, chunks2, chunks3, chunks4, nil_ref, fa_ref, Nat.add_zero, stc_av6, bin_eql, Int.reduceBEq]
      refine Res.bind s2 (s_putR [93] s2.b (by decide)) fun H3 s3 => ?_
      have := tail b' r H3 _ (.tmp 30) (.tmp 37) s3 hr
      simp -implicitDefEqProofs only [hb, len_kv, bind_ok, List.getD_cons_zero, List.getD_cons_succ]
      rw [ho, show t ++ (v.str ++ 91 :: ([] ++ 93 :: iniT r)) = t ++ v.str ++ [91] ++ [93] ++ iniT r by simp]
      simpa only [bin_eql, bin_neq] using this
    · have ho : optT x = tx x := by unfold optT; rw [if_neg hx]
      simp -implicitDefEqProofs only [bin_neq, bne, beq_eq_false_iff_ne.2 hx, Bool.not_false, bind_ok, onO_some, Locs.find, beq_self_eq_true, if_true, Nat.reduceBEq, Bool.false_eq_true, if_false, ldc_cs, ldc_cs0, ldc_cs1, ldc_cs2, ldc_cs3, ldc_cs4, index_kv0, index_kv1, index_kv2, index_kv3, load_cs, load_cs0, load_cs0', load_cs1, load_cs2, load_cs3, load_cs4, fa_iptr, List.getD_cons_zero, List.getD_cons_succ, cond_tt, cond_ff, fill1, fill2, fill3, fill4, chunks1, chunks2, chunks3, chunks4, nil_ref, fa_ref, Nat.add_zero, stc_av6, bin_eql, Int.reduceBEq]
      refine Res.bind s2 (at0R hpx s2.b) fun H3 s3 => ?_
      refine Res.bind s3 (s_putR [93] s3.b (by decide)) fun H4 s4 => ?_
      have := tail b' r H4 _ (.tmp 30) (.tmp 37) s4 hr
      simp -implicitDefEqProofs only [hb, len_kv, bind_ok, List.getD_cons_zero, List.getD_cons_succ]
      rw [ho, show t ++ (v.str ++ 91 :: (tx x ++ 93 :: iniT r)) = t ++ v.str ++ [91] ++ tx x ++ [93] ++ iniT r by simp]
      simpa only [bin_eql, bin_neq] using this
/-- A parameter whose name fits. -/
structure PPR (v : Nd) : Prop where
  k : ∃ x, v.kids = [x] ∧ x.str.length < 67108864
  n : v.num = 0 ∨ v.num = 1
  s : v.str.length < 67108864
theorem params_loop {n x z : Nd} {l : List Nd} (hl : l.length < 1099511627776) (hk : n.kids = x :: (l ++ [z])) (hx : ∀ x ∈ l, PPR x) (hzx : LXR m z) (h : RBuf lo H p t) (tf : List UInt8) :
    ∀ k i H1 t1 L, i + k = l.length → Locs.find L 3 = some n.cs → St p (RB lo p) H H1 t1 → tf = t1 ++ (join2 (if i = 0 then [] else [44, 32]) ((l.drop i).map parT) ++ (41 :: 32 :: ln z)) →
      Res p (RB lo p) H tf (loopW (g43_l4 (W m) loopW H) ([.ref p 0, .int .i64 ((l.length + 1 : Nat) : Int), .int .i64 ((i + 1 : Nat) : Int)], L, H1)) := by
  intro k
  induction k with
  | zero =>
    intro i H1 t1 L hi hL hs he
    rw [List.drop_eq_nil_of_le (by omega)] at he
    simp only [List.map_nil, join2, List.nil_append] at he
    obtain ⟨H2, e2, hs2⟩ := Res.st hs (s_putR (m := m) [41, 32] hs.b (by decide))
    obtain ⟨H3, e3, hs3⟩ := Res.st hs2 (hzx lo p H2 _ hs2.b)
    refine Res.done (x := .ok (gc (.tup []) H H3)) (fun k => ?_) ?_
    · have hzi : M.indexSl 6 (kv n.nil n.kids) (.int .i64 ((l.length + 1 : Nat) : Int)) = .ok (.iptr z.cs) := index_kv (by omega) (by rw [hk, Int.toNat_natCast]; simp)
      have hlt : decide (((i + 1 : Nat) : Int) < ((l.length + 1 : Nat) : Int)) = false := decide_eq_false (by omega)
      unfold g43_l4
      simp -implicitDefEqProofs only [List.getD_cons_zero, List.getD_cons_succ, bin_lss, bind_ok, hlt, cond_ff, e2, hL, onO_some, ldc_cs4, hzi, load_cs, e3]
    · exact Res.fin' (rbuf_like lo p) h hs3 (by rw [he]; simp)
  | succ k ih =>
    intro i H1 t1 L hi hL hs he
    have hil : i < l.length := by omega
    have hpp := hx l[i] (List.getElem_mem hil)
    obtain ⟨x', hxk, hxs⟩ := hpp.k
    have hps := hpp.s
    rw [List.drop_eq_getElem_cons hil, List.map_cons, join2, parT_eq hxk] at he
    have hz' : M.stc 6 [.int .i64 0, .str [], .int .u32 0, .bool false, nilSlice, .int .i64 0] 0 l[i].av = .ok l[i].cs := stc_av6 ..
    obtain ⟨H2, hs2, hK⟩ := sepR (m := m) [44, 32] (by decide) hs (i = 0)
    have a1 := fun t a b => sadd Tryz.prog t a b (s := x'.str) (u := [32]) (by simp; omega)
    obtain ⟨H3, e3, hs3⟩ := Res.st hs2 (s_putR (m := m) (x'.str ++ [32]) hs2.b (by simp; omega))
    obtain ⟨H4, hs4, hK4⟩ := sepR (m := m) [42] (by decide) hs3 (¬ l[i].num = 1)
    obtain ⟨H5, e5, hs5⟩ := Res.st hs4 (s_putR (m := m) l[i].str hs4.b (by omega))
    obtain ⟨H6, hs6, hK6⟩ := sepR (m := m) [91, 93] (by decide) hs5 (¬ l[i].flag = true)
    have hL2 : Locs.find (Locs.put (Locs.put L 6 [.int .i64 0, .str [], .int .u32 0, .bool false, nilSlice, .int .i64 0]) 6 l[i].cs) 3 = some n.cs := by rw [locs_put_ne (by decide), locs_put_ne (by decide)]; exact hL
    have w1 := wrap_i64 (x := ((i + 1 : Nat) : Int) + 1) (by omega) (by omega)
    have hlt : decide (((i + 1 : Nat) : Int) < ((l.length + 1 : Nat) : Int)) = true := decide_eq_true (by omega)
    have hgt : decide (((i + 1 : Nat) : Int) > 1) = !decide (i = 0) := by by_cases h0 : i = 0 <;> simp [h0]; omega
    have hidx : M.indexSl 6 (kv n.nil n.kids) (.int .i64 ((i + 1 : Nat) : Int)) = .ok (.iptr l[i].cs) := index_kv (by omega) (by rw [hk, Int.toNat_natCast, List.getElem?_cons_succ, List.getElem?_append_left hil, List.getElem?_eq_getElem hil])
    refine Res.step (s' := ([.ref p 0, .int .i64 ((l.length + 1 : Nat) : Int), .int .i64 ((i + 1 + 1 : Nat) : Int)], Locs.put (Locs.put L 6 [.int .i64 0, .str [], .int .u32 0, .bool false, nilSlice, .int .i64 0]) 6 l[i].cs, H6)) (fun k => ?_) ?_
    · have w2 : ((i + 1 + 1 : Nat) : Int) = ((i + 1 : Nat) : Int) + 1 := rfl
      rw [w2]
      generalize hL' : Locs.put (Locs.put L 6 [.int .i64 0, .str [], .int .u32 0, .bool false, nilSlice, .int .i64 0]) 6 l[i].cs = L'
      have hf6 : Locs.find L' 6 = some l[i].cs := by rw [← hL']; exact locs_put ..
      have hK6 := hK6 fun H6 => k ([.ref p 0, .int .i64 ((l.length + 1 : Nat) : Int), .int .i64 (((i + 1 : Nat) : Int) + 1)], L', H6)
      have hK4 := hK4 fun H4 => (W m 41 [.ref p 0, .str l[i].str] H4).bind fun r33 => condEv (.bool l[i].flag)
        ((W m 41 [.ref p 0, .str [91, 93]] r33.2).bind fun r => k ([.ref p 0, .int .i64 ((l.length + 1 : Nat) : Int), .int .i64 (((i + 1 : Nat) : Int) + 1)], L', r.2))
        (k ([.ref p 0, .int .i64 ((l.length + 1 : Nat) : Int), .int .i64 (((i + 1 : Nat) : Int) + 1)], L', r33.2))
      have hK := hK fun H2 => (W m 41 [.ref p 0, .str (x'.str ++ [32])] H2).bind fun r29 => condEv (.bool (l[i].num == 1))
        ((W m 41 [.ref p 0, .str [42]] r29.2).bind fun r41 => (W m 41 [.ref p 0, .str l[i].str] r41.2).bind fun r33 => condEv (.bool l[i].flag)
          ((W m 41 [.ref p 0, .str [91, 93]] r33.2).bind fun r => k ([.ref p 0, .int .i64 ((l.length + 1 : Nat) : Int), .int .i64 (((i + 1 : Nat) : Int) + 1)], L', r.2))
          (k ([.ref p 0, .int .i64 ((l.length + 1 : Nat) : Int), .int .i64 (((i + 1 : Nat) : Int) + 1)], L', r33.2)))
        ((W m 41 [.ref p 0, .str l[i].str] r29.2).bind fun r33 => condEv (.bool l[i].flag)
          ((W m 41 [.ref p 0, .str [91, 93]] r33.2).bind fun r => k ([.ref p 0, .int .i64 ((l.length + 1 : Nat) : Int), .int .i64 (((i + 1 : Nat) : Int) + 1)], L', r.2))
          (k ([.ref p 0, .int .i64 ((l.length + 1 : Nat) : Int), .int .i64 (((i + 1 : Nat) : Int) + 1)], L', r33.2)))
      have c1 : ∀ (X Y : Out Ans), condEv (.bool (l[i].num == 1)) X Y = if ¬ l[i].num = 1 then Y else X := fun X Y => by
        by_cases h1 : l[i].num = 1
        · rw [h1]; rfl
        · rw [if_pos h1, beq_eq_false_iff_ne.2 h1]; rfl
      have c2 : ∀ (X Y : Out Ans), condEv (.bool l[i].flag) X Y = if ¬ l[i].flag = true then Y else X := fun X Y => by cases l[i].flag <;> simp
      have c3 : ∀ (X Y : Out Ans), condEv (.bool (!decide (i = 0))) X Y = if i = 0 then Y else X := fun X Y => by by_cases h1 : i = 0 <;> simp [h1]
      simp -implicitDefEqProofs only [e3, bind_ok, c1, c2] at hK hK4
      rw [hK4] at hK
      simp -implicitDefEqProofs only [e5, bind_ok] at hK
      rw [hK6] at hK
      unfold g43_l4 jn
      simp -implicitDefEqProofs only [List.getD_cons_zero, List.getD_cons_succ, bin_lss, bind_ok, hlt, cond_tt, bin_gtr, hgt, hL, hidx, load_cs, locs_put, onO_some, hz', hL', hf6, ldc_cs, ldc_cs1, ldc_cs2, ldc_cs3, ldc_cs4, hxk, index_kv0, fa_iptr, load_cs1, a1, bin_eql, bin_add, w1, c1, c2, c3]
      exact hK
    · refine ih (i + 1) H6 _ _ (by omega) hL2 hs6 ?_
      rw [if_neg (Nat.succ_ne_zero i), he]
      by_cases h1 : l[i].num = 1 <;> by_cases h2 : l[i].flag = true <;> simp [h1, h2, List.append_assoc]
theorem s_function2 {n x z : Nd} {r : List Nd} (hn : n.kids.length < 1099511627776) (hs : n.str.length < 67108864) (hxs : x.str.length < 67108864) (hk : n.kids = x :: (r ++ [z])) (hx : ∀ v ∈ r, PPR v) (hzx : LXR m z) (h : RBuf lo H p t) :
    Res p (RB lo p) H (t ++ (x.str ++ 32 :: (n.str ++ 40 :: (join2 [] (r.map parT) ++ (41 :: 32 :: ln z))))) (W m 43 [.ref p 0, n.av] H) := by
  have hB := rbuf_like lo p
  have h0 := St.init hB h
  rw [n.av_eq]
  refine Res.call (fun r hr => c43 rfl _ n.kind n.str n.num n.flag _ n.pos H hr) ?_
  unfold g43
  simp only [fold_cs, fold_av]
  have hlen : n.kids.length = r.length + 2 := by rw [hk]; simp
  have w1 : IntKind.wrap .i64 ((n.kids.length : Int) - 1) = ((r.length + 1 : Nat) : Int) := by rw [wrap_i64 (by omega) (by omega)]; omega
  have i0 : M.indexSl 6 (kv n.nil n.kids) (.int .i64 0) = .ok (.iptr x.cs) := by rw [hk, index_kv0]
  have a1 := fun t a b => sadd Tryz.prog t a b (s := x.str) (u := [32]) (by simp; omega)
  have a2 := fun t a b => sadd Tryz.prog t a b (s := x.str ++ [32]) (u := n.str) (by simp; omega)
  have a3 := fun t a b => sadd Tryz.prog t a b (s := x.str ++ [32] ++ n.str) (u := [40]) (by simp; omega)
  simp -implicitDefEqProofs only [len_kv, bind_ok, bin_sub, w1, i0, fa_iptr, load_cs1, a1, a2, a3]
  refine Res.bind h0 (s_putR _ h0.b (by simp; omega)) fun H1 s1 => ?_
  exact params_loop (m := m) (n := n) (x := x) (z := z) (l := r) (by omega) hk hx hzx h _ r.length 0 H1 _ [(3, n.cs)] (by omega) rfl s1 (by simp)
theorem s_loop {n a b c d : Nd} (hk : n.kids = [a, b, c, d]) (hx : ∀ x ∈ [a, b, c], x.kind = 56 ∨ (x.kind ≠ 56 ∧ EXR m x)) (hd : LXR m d) (h : RBuf lo H p t) :
    Res p (RB lo p) H (t ++ ([102, 111, 114, 32, 40] ++ (optT a ++ 59 :: 32 :: (optT b ++ 59 :: 32 :: (optT c ++ 41 :: 10 :: ln d))))) (W m 46 [.ref p 0, n.av] H) := by
  have hB := rbuf_like lo p
  have h0 := St.init hB h
  rw [n.av_eq]
  refine Res.call (fun r hr => c46 rfl _ n.kind n.str n.num n.flag _ n.pos H hr) ?_
  unfold g46
  simp only [fold_cs, fold_av]
  refine Res.bind h0 (s_putR [102, 111, 114, 32, 40] h0.b (by decide)) fun H1 s1 => ?_
  have key : ∀ k i H1 t1, i + k = 3 → St p (RB lo p) H H1 t1 →
      Res p (RB lo p) H (t1 ++ (joinW [59, 32] (i == 0) (([a, b, c].drop i).map optT) ++ (41 :: 10 :: ln d))) (loopW (g46_l3 (W m) loopW H) ([.ref p 0, .int .i64 (i : Nat)], [(3, n.cs)], H1)) := by
    intro k
    induction k with
    | zero =>
      intro i H1 t1 hi hs
      obtain rfl : i = 3 := by omega
      obtain ⟨H2, e2, hs2⟩ := Res.st hs (s_putR (m := m) [41, 10] hs.b (by decide))
      obtain ⟨H3, e3, hs3⟩ := Res.st hs2 (hd lo p H2 _ hs2.b)
      refine Res.done (x := .ok (gc (.tup []) H H3)) (fun k => ?_) ?_
      · unfold g46_l3
        simp -implicitDefEqProofs only [bin_lss, show decide (((3 : Nat) : Int) < 3) = false from rfl, e2, e3, hk, bind_ok, onO_some, Locs.find, beq_self_eq_true, if_true, Nat.reduceBEq, Bool.false_eq_true, if_false, ldc_cs, ldc_cs0, ldc_cs1, ldc_cs2, ldc_cs3, ldc_cs4, index_kv0, index_kv1, index_kv2, index_kv3, load_cs, load_cs0, load_cs0', load_cs1, load_cs2, load_cs3, load_cs4, fa_iptr, List.getD_cons_zero, List.getD_cons_succ, cond_tt, cond_ff, fill1, fill2, fill3, fill4, chunks1, chunks2, chunks3, chunks4, nil_ref, fa_ref, Nat.add_zero, stc_av6, bin_eql, Int.reduceBEq]
      · exact Res.fin' hB h hs3 (by simp [joinW])
    | succ k ih =>
      intro i H1 t1 hi hs
      have hil : i < [a, b, c].length := by show i < 3; omega
      have hxi := hx [a, b, c][i] (List.getElem_mem hil)
      have hidx : M.indexSl 6 (kv n.nil n.kids) (.int .i64 (i : Int)) = .ok (.iptr [a, b, c][i].cs) := index_kv (by omega) (by
        rw [hk, Int.toNat_natCast]
        rcases (by omega : i = 0 ∨ i = 1 ∨ i = 2) with rfl | rfl | rfl <;> rfl)
      rw [List.drop_eq_getElem_cons hil, List.map_cons, joinW]
      have hsep : (if (i == 0) = true then ([] : List UInt8) else [59, 32]) = (if i = 0 then [] else [59, 32]) := by by_cases h0 : i = 0 <;> simp [h0]
      rw [hsep]
      obtain ⟨H2, hs2, hK⟩ := sepR (m := m) [59, 32] (by decide) hs (i = 0)
      generalize [a, b, c][i] = y at hxi hidx ⊢
      have fin : ∃ H4, St p (RB lo p) H H4 (t1 ++ (if i = 0 then [] else [59, 32]) ++ optT y) ∧ ∀ K : Heap → Out Ans, condEv (.bool (!(y.kind == 56))) ((W m 44 [.ref p 0, y.av, .int .i64 0] H2).bind fun r => K r.2) (K H2) = K H4 := by
        rcases hxi with h56 | ⟨h56, hpe⟩
        · exact ⟨H2, by unfold optT; rw [if_pos h56]; simpa using hs2, fun K => by rw [h56]; rfl⟩
        · have ho : optT y = tx y := by unfold optT; rw [if_neg h56]
          rw [ho]
          obtain ⟨H4, e4, hs4⟩ := Res.st hs2 (at0R (m := m) hpe hs2.b)
          exact ⟨H4, hs4, fun K => by rw [beq_eq_false_iff_ne.2 h56, Bool.not_false, cond_tt, e4]; rfl⟩
      obtain ⟨H4, hs4, hF⟩ := fin
      refine Res.step (s' := ([.ref p 0, .int .i64 ((i + 1 : Nat) : Int)], [(3, n.cs)], H4)) (fun k => ?_) ?_
      · have w1 := wrap_i64 (x := (i : Int) + 1) (by omega) (by omega)
        have hlt : decide ((i : Int) < 3) = true := decide_eq_true (by omega)
        have hgt : decide ((i : Int) > 0) = !decide (i = 0) := by by_cases h0 : i = 0 <;> simp [h0]; omega
        have c3 : ∀ (X Y : Out Ans), condEv (.bool (!decide (i = 0))) X Y = if i = 0 then Y else X := fun X Y => by by_cases h1 : i = 0 <;> simp [h1]
        have hF := hF fun H4 => k ([.ref p 0, .int .i64 ((i : Int) + 1)], [(3, n.cs)], H4)
        have hK := hK fun H2 => condEv (.bool (!(y.kind == 56))) ((W m 44 [.ref p 0, y.av, .int .i64 0] H2).bind fun r => k ([.ref p 0, .int .i64 ((i : Int) + 1)], [(3, n.cs)], r.2)) (k ([.ref p 0, .int .i64 ((i : Int) + 1)], [(3, n.cs)], H2))
        have hK := hK.trans hF
        unfold g46_l3 jn
        simp -implicitDefEqProofs only [bin_lss, hlt, bin_gtr, hgt, c3, hidx, bin_neq, bne, bin_add, w1, Int.natCast_add, Int.natCast_one, bind_ok, onO_some, Locs.find, beq_self_eq_true, if_true, Nat.reduceBEq, Bool.false_eq_true, if_false, ldc_cs, ldc_cs0, ldc_cs1, ldc_cs2, ldc_cs3, ldc_cs4, index_kv0, index_kv1, index_kv2, index_kv3, load_cs, load_cs0, load_cs0', load_cs1, load_cs2, load_cs3, load_cs4, fa_iptr, List.getD_cons_zero, List.getD_cons_succ, cond_tt, cond_ff, fill1, fill2, fill3, fill4, chunks1, chunks2, chunks3, chunks4, nil_ref, fa_ref, Nat.add_zero, stc_av6, bin_eql, Int.reduceBEq]
        exact hK
      · have := ih (i + 1) H4 _ (by omega) hs4
        rw [show (i + 1 == 0) = false from rfl] at this
        simpa only [List.append_assoc] using this
  have := key 3 0 H1 _ (by omega) s1
  simp only [List.drop_zero, List.map_cons, List.map_nil, joinW, beq_self_eq_true, if_true, Bool.false_eq_true, if_false, List.nil_append, List.append_nil, List.append_assoc, List.cons_append] at this
  simpa using this
end
end Go.Proofs.YtnhblghplohonaaGreatDoor.Ab
