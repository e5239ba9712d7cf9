/- Walks: the reference's printer, expressions. -/
import Derived.Test.YtnhblghplohonaaGreatDoorAbW8
set_option linter.unusedSimpArgs false
set_option linter.unusedVariables false
namespace Go.Proofs.YtnhblghplohonaaGreatDoor.Ab
open Go
variable {m : Int}

abbrev RB (lo p : Nat) : Heap → List UInt8 → Prop := fun H t => RBuf lo H p t
theorem quote_len (s : List UInt8) : (quote s).length ≤ 4 * s.length + 2 := by
  have : (s.flatMap qb).length ≤ 4 * s.length := by
    induction s with
    | nil => simp
    | cons c s ih => rw [List.flatMap_cons, List.length_append, List.length_cons]; have := qb_le c; omega
  unfold quote
  simp only [List.length_append, List.length_cons, List.length_nil]
  omega
/-- What the reference's 'expression' does at a node. -/
def EXR (m : Int) (n : Nd) : Prop := ∀ (lo p : Nat) (H : Heap) (t : List UInt8), RBuf lo H p t → Res p (RB lo p) H (t ++ tx n) (W m 65 [.ref p 0, n.av] H)
section
variable {lo p : Nat} {H : Heap} {t : List UInt8}
theorem s_atR {n : Nd} (hx : EXR m n) (k : Int) (h : RBuf lo H p t) :
    Res p (RB lo p) H (t ++ par n k (tx n)) (W m 44 [.ref p 0, n.av, .int .i64 k] H) := by
  have a1 := fun H => s_levelR (m := m) n H
  have hB := rbuf_like lo p
  rw [n.av_eq]
  refine Res.call (fun r hr => c44 rfl _ n.kind n.str n.num n.flag _ n.pos k H hr) ?_
  unfold g44
  simp only [fold_cs, fold_av, a1, bind_ok, bin_lss]
  unfold par
  have h0 := St.init hB h
  by_cases hlt : levelN n < k
  · rw [if_pos hlt]
    simp only [hlt, decide_true, cond_tt]
    refine Res.bind h0 (s_putR [40] h0.b (by decide)) fun H1 s1 => ?_
    refine Res.bind s1 (hx lo p H1 _ s1.b) fun H2 s2 => ?_
    refine Res.bind s2 (s_putR [41] s2.b (by decide)) fun H3 s3 => ?_
    exact Res.fin' hB h s3 (by simp)
  · rw [if_neg hlt]
    simp only [hlt, decide_false, cond_ff]
    refine Res.bind h0 (hx lo p H.start t h0.b) fun H1 s1 => ?_
    exact Res.fin hB h s1
theorem at0R {n : Nd} (hx : EXR m n) (h : RBuf lo H p t) : Res p (RB lo p) H (t ++ tx n) (W m 44 [.ref p 0, n.av, .int .i64 0] H) := by
  have := s_atR hx 0 h
  rwa [par_0] at this
/-- A mark before all but the first. -/
theorem sepR {H0 H1 : Heap} {t1 : List UInt8} (sep : List UInt8) (hl : sep.length ≤ 1073741824) (hs : St p (RB lo p) H0 H1 t1) (c : Prop) [Decidable c] :
    ∃ H2, St p (RB lo p) H0 H2 (t1 ++ (if c then [] else sep)) ∧ ∀ (K : Heap → Out Ans), (if c then K H1 else (W m 41 [.ref p 0, .str sep] H1).bind fun r => K r.2) = K H2 := by
  by_cases h0 : c
  · exact ⟨H1, by simpa [h0] using hs, fun K => by rw [if_pos h0]⟩
  · obtain ⟨H2, e, hs2⟩ := Res.st hs (s_putR (m := m) sep hs.b hl)
    exact ⟨H2, by rw [if_neg h0]; exact hs2, fun K => by rw [if_neg h0, e]; rfl⟩
theorem s_listR {l : List Nd} (hl : l.length < 1099511627776) (hx : ∀ x ∈ l, EXR m x) (b : Bool) (h : RBuf lo H p t) :
    Res p (RB lo p) H (t ++ join2 [] (l.map tx)) (W m 63 [.ref p 0, kv b l] H) := by
  refine Res.call (fun r hr => c63 rfl _ _ H hr) ?_
  unfold g63
  have key : ∀ k i H1 t1, i + k = l.length → St p (RB lo p) H H1 t1 →
      Res p (RB lo p) H (t1 ++ join2 (if i = 0 then [] else [44, 32]) ((l.drop i).map tx)) (loopW (g63_l1 (W m) loopW H) ([.ref p 0, kv b l, .int .i64 (i : Nat)], [], H1)) := by
    intro k
    induction k with
    | zero =>
      intro i H1 t1 hi hs
      refine Res.done (x := .ok (gc (.tup []) H H1)) (fun k => ?_) ?_
      · unfold g63_l1
        simp -implicitDefEqProofs [show ¬ i < l.length by omega]
      · rw [List.drop_eq_nil_of_le (by omega)]
        exact Res.fin' (rbuf_like lo p) h hs (by simp [join2])
    | succ k ih =>
      intro i H1 t1 hi hs
      have hil : i < l.length := by omega
      rw [List.drop_eq_getElem_cons hil, List.map_cons, join2]
      obtain ⟨H2, hs2, hK⟩ := sepR (m := m) [44, 32] (by decide) hs (i = 0)
      obtain ⟨H3, e3, hs3⟩ := Res.st hs2 (at0R (hx l[i] (List.getElem_mem hil)) hs2.b)
      refine Res.step (s' := ([.ref p 0, kv b l, .int .i64 ((i + 1 : Nat) : Int)], [], H3)) (fun k => ?_) ?_
      · unfold g63_l1 jn
        have w1 := wrap_i64 (x := (i : Int) + 1) (by omega) (by omega)
        have hlt : decide ((i : Int) < l.length) = true := decide_eq_true (by omega)
        have hK := hK fun H2 => (W m 44 [.ref p 0, l[i].av, .int .i64 0] H2).bind fun r => k ([.ref p 0, kv b l, .int .i64 ((i : Int) + 1)], [], r.2)
        rw [e3] at hK
        by_cases h0 : i = 0
        · rw [if_pos h0] at hK
          have hg : decide ((i : Int) > 0) = false := decide_eq_false (by omega)
          simp -implicitDefEqProofs only [List.getD_cons_zero, List.getD_cons_succ, bin_lss, bind_ok, hlt, cond_tt, index_kvn hil, load_cs, len_kv, bin_gtr, hg, cond_ff, bin_add, w1, Int.natCast_add, Int.natCast_one]
          exact hK
        · rw [if_neg h0] at hK
          have hg : decide ((i : Int) > 0) = true := decide_eq_true (by omega)
          simp -implicitDefEqProofs only [List.getD_cons_zero, List.getD_cons_succ, bin_lss, bind_ok, hlt, cond_tt, index_kvn hil, load_cs, len_kv, bin_gtr, hg, bin_add, w1, Int.natCast_add, Int.natCast_one]
          exact hK
      · have := ih (i + 1) H3 _ (by omega) hs3
        rw [if_neg (Nat.succ_ne_zero i)] at this
        simpa only [List.append_assoc] using this
  have := key l.length 0 H.start t (by simp) (St.init (rbuf_like lo p) h)
  simpa using this
theorem s_sizeR {x : Nd} (hs : x.str.length < 67108864) (hx : x.kind = 16 ∨ EXR m x) (h : RBuf lo H p t) :
    Res p (RB lo p) H (t ++ (if x.kind = 16 then [115, 105, 122, 101, 111, 102, 40] ++ (x.str ++ [41]) else if x.kind = 14 then [115, 105, 122, 101, 111, 102, 32, 40] ++ (tx x ++ [41]) else [115, 105, 122, 101, 111, 102, 32] ++ par x 12 (tx x))) (W m 94 [.ref p 0, x.av] H) := by
  have hB := rbuf_like lo p
  have h0 := St.init hB h
  rw [x.av_eq]
  refine Res.call (fun r hr => c94 rfl _ x.kind x.str x.num x.flag _ x.pos H hr) ?_
  unfold g94
  simp only [fold_cs, fold_av]
  by_cases h16 : x.kind = 16
  · rw [if_pos h16]
    have e1 := fun t a b => sadd Tryz.prog t a b (s := [115, 105, 122, 101, 111, 102, 40]) (u := x.str) (by simp; omega)
    have e2 := fun t a b => sadd Tryz.prog t a b (s := [115, 105, 122, 101, 111, 102, 40] ++ x.str) (u := [41]) (by simp; omega)
    simp -implicitDefEqProofs only [h16, e1, e2, bind_ok, onO_some, Locs.find, beq_self_eq_true, if_true, Nat.reduceBEq, Bool.false_eq_true, if_false, ldc_cs, ldc_cs0, ldc_cs1, ldc_cs2, ldc_cs3, ldc_cs4, index_kv0, index_kv1, index_kv2, index_kv3, load_cs, load_cs0, load_cs0', load_cs1, load_cs2, load_cs3, load_cs4, fa_iptr, List.getD_cons_zero, List.getD_cons_succ, cond_tt, cond_ff, fill1, fill2, fill3, fill4, chunks1, chunks2, chunks3, chunks4, nil_ref, fa_ref, Nat.add_zero, stc_av6, bin_eql, Int.reduceBEq]
    refine Res.bind h0 (s_putR _ h0.b (by simp; omega)) fun H1 s1 => ?_
    exact Res.fin' hB h s1 (by simp)
  · have hx := hx.resolve_left h16
    rw [if_neg h16]
    by_cases h14 : x.kind = 14
    · rw [if_pos h14]
      simp -implicitDefEqProofs only [h14, bind_ok, onO_some, Locs.find, beq_self_eq_true, if_true, Nat.reduceBEq, Bool.false_eq_true, if_false, ldc_cs, ldc_cs0, ldc_cs1, ldc_cs2, ldc_cs3, ldc_cs4, index_kv0, index_kv1, index_kv2, index_kv3, load_cs, load_cs0, load_cs0', load_cs1, load_cs2, load_cs3, load_cs4, fa_iptr, List.getD_cons_zero, List.getD_cons_succ, cond_tt, cond_ff, fill1, fill2, fill3, fill4, chunks1, chunks2, chunks3, chunks4, nil_ref, fa_ref, Nat.add_zero, stc_av6, bin_eql, Int.reduceBEq]
      refine Res.bind h0 (s_putR _ h0.b (by decide)) fun H1 s1 => ?_
      refine Res.bind s1 (hx lo p H1 _ s1.b) fun H2 s2 => ?_
      refine Res.bind s2 (s_putR [41] s2.b (by decide)) fun H3 s3 => ?_
      exact Res.fin' hB h s3 (by simp)
    · rw [if_neg h14]
      simp -implicitDefEqProofs only [beq_eq_false_iff_ne.2 h16, beq_eq_false_iff_ne.2 h14, bind_ok, onO_some, Locs.find, beq_self_eq_true, if_true, Nat.reduceBEq, Bool.false_eq_true, if_false, ldc_cs, ldc_cs0, ldc_cs1, ldc_cs2, ldc_cs3, ldc_cs4, index_kv0, index_kv1, index_kv2, index_kv3, load_cs, load_cs0, load_cs0', load_cs1, load_cs2, load_cs3, load_cs4, fa_iptr, List.getD_cons_zero, List.getD_cons_succ, cond_tt, cond_ff, fill1, fill2, fill3, fill4, chunks1, chunks2, chunks3, chunks4, nil_ref, fa_ref, Nat.add_zero, stc_av6, bin_eql, Int.reduceBEq]
      refine Res.bind h0 (s_putR _ h0.b (by decide)) fun H1 s1 => ?_
      refine Res.bind s1 (s_atR hx 12 s1.b) fun H2 s2 => ?_
      exact Res.fin' hB h s2 (by simp)
theorem hex_sliceR {k k' : IntKind} {j : Nat} (h : j < 16) : M.sliceStr (.str hexL) (some (.int k (j : Int))) (some (.int k' ((j : Int) + 1))) = .ok (.str [hexd j]) := hex_slice h
theorem s_simpleR {n : Nd} (hs : n.sz < 67108864) (ho : okE n = true) (hnum : 0 ≤ n.num ∧ n.num < 4294967296) (hk : n.kind = 1 ∨ n.kind = 2 ∨ n.kind = 3 ∨ n.kind = 4 ∨ n.kind = 8) (ih : ∀ x ∈ n.kids, okE x = true → EXR m x) (h : RBuf lo H p t) :
    Res p (RB lo p) H (t ++ tx n) (W m 95 [.ref p 0, n.av] H) := by
  have hn := fit_of (n := n) (by omega)
  have hsn := n.sz_eq
  have hB := rbuf_like lo p
  have h0 := St.init hB h
  rw [n.av_eq]
  refine Res.call (fun r hr => c95 rfl _ n.kind n.str n.num n.flag _ n.pos H hr) ?_
  unfold g95
  rcases hk with hk | hk | hk | hk | hk
  · -- a number
    rw [tx_1 hk]
    obtain ⟨u, hu⟩ : ∃ u : Nat, n.num = u := ⟨n.num.toNat, by omega⟩
    have e0 := s_decimal (m := m) (n := u) (by omega) H.start
    have hl := decDigits_length 10 u (by omega)
    rw [hu]
    simp -implicitDefEqProofs only [hk, e0, Int.toNat_natCast, bind_ok, onO_some, Locs.find, beq_self_eq_true, if_true, Nat.reduceBEq, Bool.false_eq_true, if_false, ldc_cs, ldc_cs0, ldc_cs1, ldc_cs2, ldc_cs3, ldc_cs4, index_kv0, index_kv1, index_kv2, index_kv3, load_cs, load_cs0, load_cs0', load_cs1, load_cs2, load_cs3, load_cs4, fa_iptr, List.getD_cons_zero, List.getD_cons_succ, cond_tt, cond_ff, fill1, fill2, fill3, fill4, chunks1, chunks2, chunks3, chunks4, nil_ref, fa_ref, Nat.add_zero, stc_av6, bin_eql, Int.reduceBEq]
    refine Res.bind h0 (s_putR _ h0.b (by omega)) fun H1 s1 => ?_
    cases hf : n.flag with
    | true =>
      simp -implicitDefEqProofs only [bind_ok, onO_some, Locs.find, beq_self_eq_true, if_true, Nat.reduceBEq, Bool.false_eq_true, if_false, ldc_cs, ldc_cs0, ldc_cs1, ldc_cs2, ldc_cs3, ldc_cs4, index_kv0, index_kv1, index_kv2, index_kv3, load_cs, load_cs0, load_cs0', load_cs1, load_cs2, load_cs3, load_cs4, fa_iptr, List.getD_cons_zero, List.getD_cons_succ, cond_tt, cond_ff, fill1, fill2, fill3, fill4, chunks1, chunks2, chunks3, chunks4, nil_ref, fa_ref, Nat.add_zero, stc_av6, bin_eql, Int.reduceBEq]
      refine Res.bind s1 (s_putR [117] s1.b (by decide)) fun H2 s2 => ?_
      exact Res.fin' hB h s2 (by simp)
    | false =>
      simp -implicitDefEqProofs only [bind_ok, onO_some, Locs.find, beq_self_eq_true, if_true, Nat.reduceBEq, Bool.false_eq_true, if_false, ldc_cs, ldc_cs0, ldc_cs1, ldc_cs2, ldc_cs3, ldc_cs4, index_kv0, index_kv1, index_kv2, index_kv3, load_cs, load_cs0, load_cs0', load_cs1, load_cs2, load_cs3, load_cs4, fa_iptr, List.getD_cons_zero, List.getD_cons_succ, cond_tt, cond_ff, fill1, fill2, fill3, fill4, chunks1, chunks2, chunks3, chunks4, nil_ref, fa_ref, Nat.add_zero, stc_av6, bin_eql, Int.reduceBEq]
      exact Res.fin' hB h s1 (by simp)
  · -- a character
    rw [tx_2 hk]
    have hlt := okE_ch ho hk
    obtain ⟨u, hu⟩ : ∃ u : Nat, n.num = u := ⟨n.num.toNat, by omega⟩
    have hu2 : u < 256 := by omega
    rw [hu]
    simp only [Int.toNat_natCast]
    have e1 : IntKind.wrap .u32 (Int.tdiv (u : Int) 16) = ((u / 16 : Nat) : Int) := by
      rw [Int.tdiv_eq_ediv_of_nonneg (by omega)]; exact wrap_u32 (by omega) (by omega)
    have e1' : Int.tmod (u : Int) 16 = ((u % 16 : Nat) : Int) := by
      rw [Int.tmod_eq_emod_of_nonneg (by omega)]; omega
    have e2 : IntKind.wrap .u32 (((u / 16 : Nat) : Int) + 1) = ((u / 16 : Nat) : Int) + 1 := wrap_u32 (by omega) (by omega)
    have e3 : IntKind.wrap .u32 (((u % 16 : Nat) : Int) + 1) = ((u % 16 : Nat) : Int) + 1 := wrap_u32 (by omega) (by omega)
    have a1 := fun t x y => sadd Tryz.prog t x y (s := [39, 92, 120]) (u := [hexd (u / 16)]) (by simp)
    have a2 := fun t x y => sadd Tryz.prog t x y (s := [39, 92, 120] ++ [hexd (u / 16)]) (u := [hexd (u % 16)]) (by simp)
    have a3 := fun t x y => sadd Tryz.prog t x y (s := [39, 92, 120] ++ [hexd (u / 16)] ++ [hexd (u % 16)]) (u := [39]) (by simp)
    rw [fold_hex]
    simp -implicitDefEqProofs only [hk, e1, e1', e2, e3, hex_slice (show u / 16 < 16 by omega), hex_slice (show u % 16 < 16 by omega), a1, a2, a3, bind_ok, onO_some, Locs.find, beq_self_eq_true, if_true, Nat.reduceBEq, Bool.false_eq_true, if_false, ldc_cs, ldc_cs0, ldc_cs1, ldc_cs2, ldc_cs3, ldc_cs4, index_kv0, index_kv1, index_kv2, index_kv3, load_cs, load_cs0, load_cs0', load_cs1, load_cs2, load_cs3, load_cs4, fa_iptr, List.getD_cons_zero, List.getD_cons_succ, cond_tt, cond_ff, fill1, fill2, fill3, fill4, chunks1, chunks2, chunks3, chunks4, nil_ref, fa_ref, Nat.add_zero, stc_av6, bin_eql, Int.reduceBEq]
    refine Res.bind h0 (s_putR _ h0.b (by simp)) fun H1 s1 => ?_
    exact Res.fin' hB h s1 (by simp)
  · -- a string
    rw [tx_3 hk]
    have e0 := s_quoteR (m := m) n.str (by omega) H.start
    have hq := quote_len n.str
    simp -implicitDefEqProofs only [hk, e0, bind_ok, onO_some, Locs.find, beq_self_eq_true, if_true, Nat.reduceBEq, Bool.false_eq_true, if_false, ldc_cs, ldc_cs0, ldc_cs1, ldc_cs2, ldc_cs3, ldc_cs4, index_kv0, index_kv1, index_kv2, index_kv3, load_cs, load_cs0, load_cs0', load_cs1, load_cs2, load_cs3, load_cs4, fa_iptr, List.getD_cons_zero, List.getD_cons_succ, cond_tt, cond_ff, fill1, fill2, fill3, fill4, chunks1, chunks2, chunks3, chunks4, nil_ref, fa_ref, Nat.add_zero, stc_av6, bin_eql, Int.reduceBEq]
    refine Res.bind h0 (s_putR _ h0.b (by omega)) fun H1 s1 => ?_
    exact Res.fin' hB h s1 rfl
  · -- a name
    rw [tx_4 hk]
    simp -implicitDefEqProofs only [hk, bind_ok, onO_some, Locs.find, beq_self_eq_true, if_true, Nat.reduceBEq, Bool.false_eq_true, if_false, ldc_cs, ldc_cs0, ldc_cs1, ldc_cs2, ldc_cs3, ldc_cs4, index_kv0, index_kv1, index_kv2, index_kv3, load_cs, load_cs0, load_cs0', load_cs1, load_cs2, load_cs3, load_cs4, fa_iptr, List.getD_cons_zero, List.getD_cons_succ, cond_tt, cond_ff, fill1, fill2, fill3, fill4, chunks1, chunks2, chunks3, chunks4, nil_ref, fa_ref, Nat.add_zero, stc_av6, bin_eql, Int.reduceBEq]
    refine Res.bind h0 (s_putR _ h0.b (by omega)) fun H1 s1 => ?_
    exact Res.fin' hB h s1 rfl
  · -- a call
    have hcall := okE_call ho hk
    rw [tx_8 hk]
    have a1 := fun t x y => sadd Tryz.prog t x y (s := n.str) (u := [40]) (by simp; omega)
    simp -implicitDefEqProofs only [hk, a1, bind_ok, onO_some, Locs.find, beq_self_eq_true, if_true, Nat.reduceBEq, Bool.false_eq_true, if_false, ldc_cs, ldc_cs0, ldc_cs1, ldc_cs2, ldc_cs3, ldc_cs4, index_kv0, index_kv1, index_kv2, index_kv3, load_cs, load_cs0, load_cs0', load_cs1, load_cs2, load_cs3, load_cs4, fa_iptr, List.getD_cons_zero, List.getD_cons_succ, cond_tt, cond_ff, fill1, fill2, fill3, fill4, chunks1, chunks2, chunks3, chunks4, nil_ref, fa_ref, Nat.add_zero, stc_av6, bin_eql, Int.reduceBEq]
    refine Res.bind h0 (s_putR _ h0.b (by simp; omega)) fun H1 s1 => ?_
    refine Res.bind s1 (s_listR hn.k (fun x hx => ih x hx (hcall x hx)) n.nil s1.b) fun H2 s2 => ?_
    refine Res.bind s2 (s_putR [41] s2.b (by decide)) fun H3 s3 => ?_
    exact Res.fin' hB h s3 (by simp)
theorem s_txR : ∀ n : Nd, n.sz < 67108864 → okE n = true → numB n = true → EXR m n := by
  refine Nd.ind fun n ih hs ho hnum => ?_
  have hnp := numB_parts hnum
  intro lo p H t h
  have hsn := n.sz_eq
  have ihk : ∀ x ∈ n.kids, okE x = true → EXR m x := fun x hx hox => ih x hx (by have := Nd.sz_kid hx; omega) hox (hnp.2.2 x hx)
  have hkids : ∀ x ∈ n.kids, x.str.length < 67108864 := fun x hx => by have h1 := Nd.sz_kid hx; rw [x.sz_eq] at h1; omega
  have hB := rbuf_like lo p
  have hpo := okE_parts ho
  have h0 := St.init hB h
  have hop := fun H => s_opR (m := m) n.str H
  have hw : IntKind.wrap .i64 (opL n.str + 1) = opL n.str + 1 := wrap_i64 (by have := opL_ge n.str; omega) (by have := opL_le n.str; omega)
  have a1 := fun t x y => sadd Tryz.prog t x y (s := [32]) (u := n.str) (by simp; omega)
  have a2 := fun t x y => sadd Tryz.prog t x y (s := [32] ++ n.str) (u := [32]) (by simp; omega)
  have hsimp : n.kind = 1 ∨ n.kind = 2 ∨ n.kind = 3 ∨ n.kind = 4 ∨ n.kind = 8 → Res p (RB lo p) H.start (t ++ tx n) (W m 95 [.ref p 0, n.av] H.start) := fun hk => s_simpleR hs ho ⟨hnp.1, hnp.2.1⟩ hk ihk h0.b
  rw [n.av_eq]
  refine Res.call (fun r hr => c65 rfl _ n.kind n.str n.num n.flag _ n.pos H hr) ?_
  unfold g65 jn
  simp only [fold_cs, fold_av]
  rcases (by omega : (n.kind = 1 ∨ n.kind = 2 ∨ n.kind = 3 ∨ n.kind = 4 ∨ n.kind = 8) ∨ n.kind = 5 ∨ n.kind = 6 ∨ n.kind = 7 ∨ n.kind = 9 ∨ n.kind = 10 ∨ n.kind = 11 ∨ n.kind = 12 ∨ n.kind = 13 ∨ n.kind = 14 ∨ n.kind = 15) with hk | hk | hk | hk | hk | hk | hk | hk | hk | hk | hk
  · have q1 := hsimp hk
    have hd : ∀ j : Int, (j = 5 ∨ j = 6 ∨ j = 7 ∨ j = 9 ∨ j = 10 ∨ j = 11 ∨ j = 12 ∨ j = 13 ∨ j = 14 ∨ j = 15) → (n.kind == j) = false := fun j hj => beq_eq_false_iff_ne.2 (by omega)
    simp -implicitDefEqProofs only [hd 5 (by omega), hd 6 (by omega), hd 7 (by omega), hd 9 (by omega), hd 10 (by omega), hd 11 (by omega), hd 12 (by omega), hd 13 (by omega), hd 14 (by omega), hd 15 (by omega), bind_ok, onO_some, Locs.find, beq_self_eq_true, if_true, Nat.reduceBEq, Bool.false_eq_true, if_false, ldc_cs, ldc_cs0, ldc_cs1, ldc_cs2, ldc_cs3, ldc_cs4, index_kv0, index_kv1, index_kv2, index_kv3, load_cs, load_cs0, load_cs0', load_cs1, load_cs2, load_cs3, load_cs4, fa_iptr, List.getD_cons_zero, List.getD_cons_succ, cond_tt, cond_ff, fill1, fill2, fill3, fill4, chunks1, chunks2, chunks3, chunks4, nil_ref, fa_ref, Nat.add_zero, stc_av6, bin_eql, Int.reduceBEq]
    refine Res.bind h0 q1 fun H1 s1 => ?_
    exact Res.fin hB h s1
  all_goals simp -implicitDefEqProofs only [hk, bind_ok, onO_some, Locs.find, beq_self_eq_true, if_true, Nat.reduceBEq, Bool.false_eq_true, if_false, ldc_cs, ldc_cs0, ldc_cs1, ldc_cs2, ldc_cs3, ldc_cs4, index_kv0, index_kv1, index_kv2, index_kv3, load_cs, load_cs0, load_cs0', load_cs1, load_cs2, load_cs3, load_cs4, fa_iptr, List.getD_cons_zero, List.getD_cons_succ, cond_tt, cond_ff, fill1, fill2, fill3, fill4, chunks1, chunks2, chunks3, chunks4, nil_ref, fa_ref, Nat.add_zero, stc_av6, bin_eql, Int.reduceBEq]
  · -- an index
    obtain ⟨x, y, hl, hx, hy⟩ := okE_E2 ho (.inl hk)
    rw [tx_5 hk hl]
    simp -implicitDefEqProofs only [hl, bind_ok, onO_some, Locs.find, beq_self_eq_true, if_true, Nat.reduceBEq, Bool.false_eq_true, if_false, ldc_cs, ldc_cs0, ldc_cs1, ldc_cs2, ldc_cs3, ldc_cs4, index_kv0, index_kv1, index_kv2, index_kv3, load_cs, load_cs0, load_cs0', load_cs1, load_cs2, load_cs3, load_cs4, fa_iptr, List.getD_cons_zero, List.getD_cons_succ, cond_tt, cond_ff, fill1, fill2, fill3, fill4, chunks1, chunks2, chunks3, chunks4, nil_ref, fa_ref, Nat.add_zero, stc_av6, bin_eql, Int.reduceBEq]
    refine Res.bind h0 (s_atR (ihk x (by rw [hl]; simp) hx) 13 h0.b) fun H1 s1 => ?_
    refine Res.bind s1 (s_putR [91] s1.b (by decide)) fun H2 s2 => ?_
    simp -implicitDefEqProofs only [hl, bind_ok, onO_some, Locs.find, beq_self_eq_true, if_true, Nat.reduceBEq, Bool.false_eq_true, if_false, ldc_cs, ldc_cs0, ldc_cs1, ldc_cs2, ldc_cs3, ldc_cs4, index_kv0, index_kv1, index_kv2, index_kv3, load_cs, load_cs0, load_cs0', load_cs1, load_cs2, load_cs3, load_cs4, fa_iptr, List.getD_cons_zero, List.getD_cons_succ, cond_tt, cond_ff, fill1, fill2, fill3, fill4, chunks1, chunks2, chunks3, chunks4, nil_ref, fa_ref, Nat.add_zero, stc_av6, bin_eql, Int.reduceBEq]
    refine Res.bind s2 (s_atR (ihk y (by rw [hl]; simp) hy) 0 s2.b) fun H3 s3 => ?_
    refine Res.bind s3 (s_putR [93] s3.b (by decide)) fun H4 s4 => ?_
    exact Res.fin' hB h s4 (by simp)
  · -- a field
    obtain ⟨x, hl, hx⟩ := okE_E1 ho (.inl hk)
    rw [tx_6 hk hl]
    have b1 := fun t x y => sadd Tryz.prog t x y (s := [46]) (u := n.str) (by simp; omega)
    simp -implicitDefEqProofs only [hl, bind_ok, onO_some, Locs.find, beq_self_eq_true, if_true, Nat.reduceBEq, Bool.false_eq_true, if_false, ldc_cs, ldc_cs0, ldc_cs1, ldc_cs2, ldc_cs3, ldc_cs4, index_kv0, index_kv1, index_kv2, index_kv3, load_cs, load_cs0, load_cs0', load_cs1, load_cs2, load_cs3, load_cs4, fa_iptr, List.getD_cons_zero, List.getD_cons_succ, cond_tt, cond_ff, fill1, fill2, fill3, fill4, chunks1, chunks2, chunks3, chunks4, nil_ref, fa_ref, Nat.add_zero, stc_av6, bin_eql, Int.reduceBEq]
    refine Res.bind h0 (s_atR (ihk x (by rw [hl]; simp) hx) 13 h0.b) fun H1 s1 => ?_
    simp -implicitDefEqProofs only [b1, bind_ok, onO_some, Locs.find, beq_self_eq_true, if_true, Nat.reduceBEq, Bool.false_eq_true, if_false, ldc_cs, ldc_cs0, ldc_cs1, ldc_cs2, ldc_cs3, ldc_cs4, index_kv0, index_kv1, index_kv2, index_kv3, load_cs, load_cs0, load_cs0', load_cs1, load_cs2, load_cs3, load_cs4, fa_iptr, List.getD_cons_zero, List.getD_cons_succ, cond_tt, cond_ff, fill1, fill2, fill3, fill4, chunks1, chunks2, chunks3, chunks4, nil_ref, fa_ref, Nat.add_zero, stc_av6, bin_eql, Int.reduceBEq]
    refine Res.bind s1 (s_putR _ s1.b (by simp; omega)) fun H2 s2 => ?_
    exact Res.fin' hB h s2 (by simp)
  · -- an arrow
    obtain ⟨x, hl, hx⟩ := okE_E1 ho (.inr (.inl hk))
    rw [tx_7 hk hl]
    have b1 := fun t x y => sadd Tryz.prog t x y (s := [45, 62]) (u := n.str) (by simp; omega)
    simp -implicitDefEqProofs only [hl, bind_ok, onO_some, Locs.find, beq_self_eq_true, if_true, Nat.reduceBEq, Bool.false_eq_true, if_false, ldc_cs, ldc_cs0, ldc_cs1, ldc_cs2, ldc_cs3, ldc_cs4, index_kv0, index_kv1, index_kv2, index_kv3, load_cs, load_cs0, load_cs0', load_cs1, load_cs2, load_cs3, load_cs4, fa_iptr, List.getD_cons_zero, List.getD_cons_succ, cond_tt, cond_ff, fill1, fill2, fill3, fill4, chunks1, chunks2, chunks3, chunks4, nil_ref, fa_ref, Nat.add_zero, stc_av6, bin_eql, Int.reduceBEq]
    refine Res.bind h0 (s_atR (ihk x (by rw [hl]; simp) hx) 13 h0.b) fun H1 s1 => ?_
    simp -implicitDefEqProofs only [b1, bind_ok, onO_some, Locs.find, beq_self_eq_true, if_true, Nat.reduceBEq, Bool.false_eq_true, if_false, ldc_cs, ldc_cs0, ldc_cs1, ldc_cs2, ldc_cs3, ldc_cs4, index_kv0, index_kv1, index_kv2, index_kv3, load_cs, load_cs0, load_cs0', load_cs1, load_cs2, load_cs3, load_cs4, fa_iptr, List.getD_cons_zero, List.getD_cons_succ, cond_tt, cond_ff, fill1, fill2, fill3, fill4, chunks1, chunks2, chunks3, chunks4, nil_ref, fa_ref, Nat.add_zero, stc_av6, bin_eql, Int.reduceBEq]
    refine Res.bind s1 (s_putR _ s1.b (by simp; omega)) fun H2 s2 => ?_
    exact Res.fin' hB h s2 (by simp)
  · -- a sign
    obtain ⟨x, hl, hx⟩ := okE_E1 ho (.inr (.inr hk))
    rw [tx_9 hk hl]
    refine Res.bind h0 (s_putR n.str h0.b (by omega)) fun H1 s1 => ?_
    simp -implicitDefEqProofs only [hl, bind_ok, onO_some, Locs.find, beq_self_eq_true, if_true, Nat.reduceBEq, Bool.false_eq_true, if_false, ldc_cs, ldc_cs0, ldc_cs1, ldc_cs2, ldc_cs3, ldc_cs4, index_kv0, index_kv1, index_kv2, index_kv3, load_cs, load_cs0, load_cs0', load_cs1, load_cs2, load_cs3, load_cs4, fa_iptr, List.getD_cons_zero, List.getD_cons_succ, cond_tt, cond_ff, fill1, fill2, fill3, fill4, chunks1, chunks2, chunks3, chunks4, nil_ref, fa_ref, Nat.add_zero, stc_av6, bin_eql, Int.reduceBEq]
    by_cases h9 : x.kind = 9
    · by_cases hst : x.str = n.str
      · rw [if_pos ⟨h9, hst⟩]
        simp -implicitDefEqProofs only [h9, hst, guard_tt, bin_seql, pick_tt, bind_ok, onO_some, Locs.find, beq_self_eq_true, if_true, Nat.reduceBEq, Bool.false_eq_true, if_false, ldc_cs, ldc_cs0, ldc_cs1, ldc_cs2, ldc_cs3, ldc_cs4, index_kv0, index_kv1, index_kv2, index_kv3, load_cs, load_cs0, load_cs0', load_cs1, load_cs2, load_cs3, load_cs4, fa_iptr, List.getD_cons_zero, List.getD_cons_succ, cond_tt, cond_ff, fill1, fill2, fill3, fill4, chunks1, chunks2, chunks3, chunks4, nil_ref, fa_ref, Nat.add_zero, stc_av6, bin_eql, Int.reduceBEq]
        refine Res.bind s1 (s_putR [32] s1.b (by decide)) fun H2 s2 => ?_
        simp -implicitDefEqProofs only [hl, bind_ok, onO_some, Locs.find, beq_self_eq_true, if_true, Nat.reduceBEq, Bool.false_eq_true, if_false, ldc_cs, ldc_cs0, ldc_cs1, ldc_cs2, ldc_cs3, ldc_cs4, index_kv0, index_kv1, index_kv2, index_kv3, load_cs, load_cs0, load_cs0', load_cs1, load_cs2, load_cs3, load_cs4, fa_iptr, List.getD_cons_zero, List.getD_cons_succ, cond_tt, cond_ff, fill1, fill2, fill3, fill4, chunks1, chunks2, chunks3, chunks4, nil_ref, fa_ref, Nat.add_zero, stc_av6, bin_eql, Int.reduceBEq]
        refine Res.bind s2 (s_atR (ihk x (by rw [hl]; simp) hx) 12 s2.b) fun H3 s3 => ?_
        exact Res.fin' hB h s3 (by simp)
      · rw [if_neg (fun hc => hst hc.2)]
        simp -implicitDefEqProofs only [h9, beq_eq_false_iff_ne.2 hst, guard_tt, bin_seql, pick_tt, bind_ok, onO_some, Locs.find, beq_self_eq_true, if_true, Nat.reduceBEq, Bool.false_eq_true, if_false, ldc_cs, ldc_cs0, ldc_cs1, ldc_cs2, ldc_cs3, ldc_cs4, index_kv0, index_kv1, index_kv2, index_kv3, load_cs, load_cs0, load_cs0', load_cs1, load_cs2, load_cs3, load_cs4, fa_iptr, List.getD_cons_zero, List.getD_cons_succ, cond_tt, cond_ff, fill1, fill2, fill3, fill4, chunks1, chunks2, chunks3, chunks4, nil_ref, fa_ref, Nat.add_zero, stc_av6, bin_eql, Int.reduceBEq]
        refine Res.bind s1 (s_atR (ihk x (by rw [hl]; simp) hx) 12 s1.b) fun H3 s3 => ?_
        exact Res.fin' hB h s3 (by simp)
    · rw [if_neg (fun hc => h9 hc.1)]
      simp -implicitDefEqProofs only [beq_eq_false_iff_ne.2 h9, guard_ft, pick_ff, bind_ok, onO_some, Locs.find, beq_self_eq_true, if_true, Nat.reduceBEq, Bool.false_eq_true, if_false, ldc_cs, ldc_cs0, ldc_cs1, ldc_cs2, ldc_cs3, ldc_cs4, index_kv0, index_kv1, index_kv2, index_kv3, load_cs, load_cs0, load_cs0', load_cs1, load_cs2, load_cs3, load_cs4, fa_iptr, List.getD_cons_zero, List.getD_cons_succ, cond_tt, cond_ff, fill1, fill2, fill3, fill4, chunks1, chunks2, chunks3, chunks4, nil_ref, fa_ref, Nat.add_zero, stc_av6, bin_eql, Int.reduceBEq]
      refine Res.bind s1 (s_atR (ihk x (by rw [hl]; simp) hx) 12 s1.b) fun H3 s3 => ?_
      exact Res.fin' hB h s3 (by simp)
  · -- an operator
    obtain ⟨x, y, hl, hx, hy⟩ := okE_E2 ho (.inr (.inl hk))
    rw [tx_10 (.inl hk) hl]
    simp -implicitDefEqProofs only [hl, hop, start_n, start_low, and_self, bind_ok, onO_some, Locs.find, beq_self_eq_true, if_true, Nat.reduceBEq, Bool.false_eq_true, if_false, ldc_cs, ldc_cs0, ldc_cs1, ldc_cs2, ldc_cs3, ldc_cs4, index_kv0, index_kv1, index_kv2, index_kv3, load_cs, load_cs0, load_cs0', load_cs1, load_cs2, load_cs3, load_cs4, fa_iptr, List.getD_cons_zero, List.getD_cons_succ, cond_tt, cond_ff, fill1, fill2, fill3, fill4, chunks1, chunks2, chunks3, chunks4, nil_ref, fa_ref, Nat.add_zero, stc_av6, bin_eql, Int.reduceBEq]
    refine Res.bind h0 (s_atR (ihk x (by rw [hl]; simp) hx) _ h0.b) fun H1 s1 => ?_
    simp -implicitDefEqProofs only [hl, a1, a2, bind_ok, onO_some, Locs.find, beq_self_eq_true, if_true, Nat.reduceBEq, Bool.false_eq_true, if_false, ldc_cs, ldc_cs0, ldc_cs1, ldc_cs2, ldc_cs3, ldc_cs4, index_kv0, index_kv1, index_kv2, index_kv3, load_cs, load_cs0, load_cs0', load_cs1, load_cs2, load_cs3, load_cs4, fa_iptr, List.getD_cons_zero, List.getD_cons_succ, cond_tt, cond_ff, fill1, fill2, fill3, fill4, chunks1, chunks2, chunks3, chunks4, nil_ref, fa_ref, Nat.add_zero, stc_av6, bin_eql, Int.reduceBEq]
    refine Res.bind s1 (s_putR _ s1.b (by simp; omega)) fun H2 s2 => ?_
    simp -implicitDefEqProofs only [hl, hop, hw, start_n, start_low, and_self, bin_add, bind_ok, onO_some, Locs.find, beq_self_eq_true, if_true, Nat.reduceBEq, Bool.false_eq_true, if_false, ldc_cs, ldc_cs0, ldc_cs1, ldc_cs2, ldc_cs3, ldc_cs4, index_kv0, index_kv1, index_kv2, index_kv3, load_cs, load_cs0, load_cs0', load_cs1, load_cs2, load_cs3, load_cs4, fa_iptr, List.getD_cons_zero, List.getD_cons_succ, cond_tt, cond_ff, fill1, fill2, fill3, fill4, chunks1, chunks2, chunks3, chunks4, nil_ref, fa_ref, Nat.add_zero, stc_av6, bin_eql, Int.reduceBEq]
    refine Res.bind s2 (s_atR (ihk y (by rw [hl]; simp) hy) _ s2.b) fun H3 s3 => ?_
    exact Res.fin' hB h s3 (by simp)
  · -- an operator
    obtain ⟨x, y, hl, hx, hy⟩ := okE_E2 ho (.inr (.inr hk))
    rw [tx_10 (.inr hk) hl]
    simp -implicitDefEqProofs only [hl, hop, start_n, start_low, and_self, bind_ok, onO_some, Locs.find, beq_self_eq_true, if_true, Nat.reduceBEq, Bool.false_eq_true, if_false, ldc_cs, ldc_cs0, ldc_cs1, ldc_cs2, ldc_cs3, ldc_cs4, index_kv0, index_kv1, index_kv2, index_kv3, load_cs, load_cs0, load_cs0', load_cs1, load_cs2, load_cs3, load_cs4, fa_iptr, List.getD_cons_zero, List.getD_cons_succ, cond_tt, cond_ff, fill1, fill2, fill3, fill4, chunks1, chunks2, chunks3, chunks4, nil_ref, fa_ref, Nat.add_zero, stc_av6, bin_eql, Int.reduceBEq]
    refine Res.bind h0 (s_atR (ihk x (by rw [hl]; simp) hx) _ h0.b) fun H1 s1 => ?_
    simp -implicitDefEqProofs only [hl, a1, a2, bind_ok, onO_some, Locs.find, beq_self_eq_true, if_true, Nat.reduceBEq, Bool.false_eq_true, if_false, ldc_cs, ldc_cs0, ldc_cs1, ldc_cs2, ldc_cs3, ldc_cs4, index_kv0, index_kv1, index_kv2, index_kv3, load_cs, load_cs0, load_cs0', load_cs1, load_cs2, load_cs3, load_cs4, fa_iptr, List.getD_cons_zero, List.getD_cons_succ, cond_tt, cond_ff, fill1, fill2, fill3, fill4, chunks1, chunks2, chunks3, chunks4, nil_ref, fa_ref, Nat.add_zero, stc_av6, bin_eql, Int.reduceBEq]
    refine Res.bind s1 (s_putR _ s1.b (by simp; omega)) fun H2 s2 => ?_
    simp -implicitDefEqProofs only [hl, hop, hw, start_n, start_low, and_self, bin_add, bind_ok, onO_some, Locs.find, beq_self_eq_true, if_true, Nat.reduceBEq, Bool.false_eq_true, if_false, ldc_cs, ldc_cs0, ldc_cs1, ldc_cs2, ldc_cs3, ldc_cs4, index_kv0, index_kv1, index_kv2, index_kv3, load_cs, load_cs0, load_cs0', load_cs1, load_cs2, load_cs3, load_cs4, fa_iptr, List.getD_cons_zero, List.getD_cons_succ, cond_tt, cond_ff, fill1, fill2, fill3, fill4, chunks1, chunks2, chunks3, chunks4, nil_ref, fa_ref, Nat.add_zero, stc_av6, bin_eql, Int.reduceBEq]
    refine Res.bind s2 (s_atR (ihk y (by rw [hl]; simp) hy) _ s2.b) fun H3 s3 => ?_
    exact Res.fin' hB h s3 (by simp)
  · -- a choice
    obtain ⟨x, y, z, hl, hx, hy, hz⟩ := okE_E3 ho hk
    rw [tx_12 hk hl]
    simp -implicitDefEqProofs only [hl, bind_ok, onO_some, Locs.find, beq_self_eq_true, if_true, Nat.reduceBEq, Bool.false_eq_true, if_false, ldc_cs, ldc_cs0, ldc_cs1, ldc_cs2, ldc_cs3, ldc_cs4, index_kv0, index_kv1, index_kv2, index_kv3, load_cs, load_cs0, load_cs0', load_cs1, load_cs2, load_cs3, load_cs4, fa_iptr, List.getD_cons_zero, List.getD_cons_succ, cond_tt, cond_ff, fill1, fill2, fill3, fill4, chunks1, chunks2, chunks3, chunks4, nil_ref, fa_ref, Nat.add_zero, stc_av6, bin_eql, Int.reduceBEq]
    refine Res.bind h0 (s_atR (ihk x (by rw [hl]; simp) hx) _ h0.b) fun H1 s1 => ?_
    refine Res.bind s1 (s_putR _ s1.b (by decide)) fun H2 s2 => ?_
    simp -implicitDefEqProofs only [hl, bind_ok, onO_some, Locs.find, beq_self_eq_true, if_true, Nat.reduceBEq, Bool.false_eq_true, if_false, ldc_cs, ldc_cs0, ldc_cs1, ldc_cs2, ldc_cs3, ldc_cs4, index_kv0, index_kv1, index_kv2, index_kv3, load_cs, load_cs0, load_cs0', load_cs1, load_cs2, load_cs3, load_cs4, fa_iptr, List.getD_cons_zero, List.getD_cons_succ, cond_tt, cond_ff, fill1, fill2, fill3, fill4, chunks1, chunks2, chunks3, chunks4, nil_ref, fa_ref, Nat.add_zero, stc_av6, bin_eql, Int.reduceBEq]
    refine Res.bind s2 (s_atR (ihk y (by rw [hl]; simp) hy) _ s2.b) fun H3 s3 => ?_
    refine Res.bind s3 (s_putR _ s3.b (by decide)) fun H4 s4 => ?_
    simp -implicitDefEqProofs only [hl, bind_ok, onO_some, Locs.find, beq_self_eq_true, if_true, Nat.reduceBEq, Bool.false_eq_true, if_false, ldc_cs, ldc_cs0, ldc_cs1, ldc_cs2, ldc_cs3, ldc_cs4, index_kv0, index_kv1, index_kv2, index_kv3, load_cs, load_cs0, load_cs0', load_cs1, load_cs2, load_cs3, load_cs4, fa_iptr, List.getD_cons_zero, List.getD_cons_succ, cond_tt, cond_ff, fill1, fill2, fill3, fill4, chunks1, chunks2, chunks3, chunks4, nil_ref, fa_ref, Nat.add_zero, stc_av6, bin_eql, Int.reduceBEq]
    refine Res.bind s4 (s_atR (ihk z (by rw [hl]; simp) hz) _ s4.b) fun H5 s5 => ?_
    exact Res.fin' hB h s5 (by simp [par_0])
  · -- an assignment
    obtain ⟨x, y, hl, hx, hy⟩ := okE_A ho hk
    rw [tx_13 hk hl]
    simp -implicitDefEqProofs only [hl, bind_ok, onO_some, Locs.find, beq_self_eq_true, if_true, Nat.reduceBEq, Bool.false_eq_true, if_false, ldc_cs, ldc_cs0, ldc_cs1, ldc_cs2, ldc_cs3, ldc_cs4, index_kv0, index_kv1, index_kv2, index_kv3, load_cs, load_cs0, load_cs0', load_cs1, load_cs2, load_cs3, load_cs4, fa_iptr, List.getD_cons_zero, List.getD_cons_succ, cond_tt, cond_ff, fill1, fill2, fill3, fill4, chunks1, chunks2, chunks3, chunks4, nil_ref, fa_ref, Nat.add_zero, stc_av6, bin_eql, Int.reduceBEq]
    refine Res.bind h0 (s_atR (ihk x (by rw [hl]; simp) hx) _ h0.b) fun H1 s1 => ?_
    simp -implicitDefEqProofs only [hl, a1, a2, bind_ok, onO_some, Locs.find, beq_self_eq_true, if_true, Nat.reduceBEq, Bool.false_eq_true, if_false, ldc_cs, ldc_cs0, ldc_cs1, ldc_cs2, ldc_cs3, ldc_cs4, index_kv0, index_kv1, index_kv2, index_kv3, load_cs, load_cs0, load_cs0', load_cs1, load_cs2, load_cs3, load_cs4, fa_iptr, List.getD_cons_zero, List.getD_cons_succ, cond_tt, cond_ff, fill1, fill2, fill3, fill4, chunks1, chunks2, chunks3, chunks4, nil_ref, fa_ref, Nat.add_zero, stc_av6, bin_eql, Int.reduceBEq]
    refine Res.bind s1 (s_putR _ s1.b (by simp; omega)) fun H2 s2 => ?_
    simp -implicitDefEqProofs only [hl, bind_ok, onO_some, Locs.find, beq_self_eq_true, if_true, Nat.reduceBEq, Bool.false_eq_true, if_false, ldc_cs, ldc_cs0, ldc_cs1, ldc_cs2, ldc_cs3, ldc_cs4, index_kv0, index_kv1, index_kv2, index_kv3, load_cs, load_cs0, load_cs0', load_cs1, load_cs2, load_cs3, load_cs4, fa_iptr, List.getD_cons_zero, List.getD_cons_succ, cond_tt, cond_ff, fill1, fill2, fill3, fill4, chunks1, chunks2, chunks3, chunks4, nil_ref, fa_ref, Nat.add_zero, stc_av6, bin_eql, Int.reduceBEq]
    refine Res.bind s2 (s_atR (ihk y (by rw [hl]; simp) hy) _ s2.b) fun H3 s3 => ?_
    exact Res.fin' hB h s3 (by simp)
  · -- a cast
    obtain ⟨x, y, hl, hx, hy⟩ := okE_C ho hk
    have hxs := hkids x (by rw [hl]; simp)
    rw [tx_14 hk hl]
    have b1 := fun t a b => sadd Tryz.prog t a b (s := [40]) (u := x.str) (by simp; omega)
    have b2 := fun t a b => sadd Tryz.prog t a b (s := [40] ++ x.str) (u := [41]) (by simp; omega)
    simp -implicitDefEqProofs only [hl, b1, b2, bind_ok, onO_some, Locs.find, beq_self_eq_true, if_true, Nat.reduceBEq, Bool.false_eq_true, if_false, ldc_cs, ldc_cs0, ldc_cs1, ldc_cs2, ldc_cs3, ldc_cs4, index_kv0, index_kv1, index_kv2, index_kv3, load_cs, load_cs0, load_cs0', load_cs1, load_cs2, load_cs3, load_cs4, fa_iptr, List.getD_cons_zero, List.getD_cons_succ, cond_tt, cond_ff, fill1, fill2, fill3, fill4, chunks1, chunks2, chunks3, chunks4, nil_ref, fa_ref, Nat.add_zero, stc_av6, bin_eql, Int.reduceBEq]
    refine Res.bind h0 (s_putR _ h0.b (by simp; omega)) fun H1 s1 => ?_
    simp -implicitDefEqProofs only [hl, bind_ok, onO_some, Locs.find, beq_self_eq_true, if_true, Nat.reduceBEq, Bool.false_eq_true, if_false, ldc_cs, ldc_cs0, ldc_cs1, ldc_cs2, ldc_cs3, ldc_cs4, index_kv0, index_kv1, index_kv2, index_kv3, load_cs, load_cs0, load_cs0', load_cs1, load_cs2, load_cs3, load_cs4, fa_iptr, List.getD_cons_zero, List.getD_cons_succ, cond_tt, cond_ff, fill1, fill2, fill3, fill4, chunks1, chunks2, chunks3, chunks4, nil_ref, fa_ref, Nat.add_zero, stc_av6, bin_eql, Int.reduceBEq]
    refine Res.bind s1 (s_atR (ihk y (by rw [hl]; simp) hy) _ s1.b) fun H2 s2 => ?_
    exact Res.fin' hB h s2 (by simp)
  · -- a sizeof
    obtain ⟨x, hl, hx⟩ := okE_S ho hk
    rw [tx_15 hk hl]
    simp -implicitDefEqProofs only [hl, bind_ok, onO_some, Locs.find, beq_self_eq_true, if_true, Nat.reduceBEq, Bool.false_eq_true, if_false, ldc_cs, ldc_cs0, ldc_cs1, ldc_cs2, ldc_cs3, ldc_cs4, index_kv0, index_kv1, index_kv2, index_kv3, load_cs, load_cs0, load_cs0', load_cs1, load_cs2, load_cs3, load_cs4, fa_iptr, List.getD_cons_zero, List.getD_cons_succ, cond_tt, cond_ff, fill1, fill2, fill3, fill4, chunks1, chunks2, chunks3, chunks4, nil_ref, fa_ref, Nat.add_zero, stc_av6, bin_eql, Int.reduceBEq]
    refine Res.bind h0 (s_sizeR (hkids x (by rw [hl]; simp)) (hx.imp id (ihk x (by rw [hl]; simp))) h0.b) fun H1 s1 => ?_
    exact Res.fin hB h s1
end
end Go.Proofs.YtnhblghplohonaaGreatDoor.Ab
