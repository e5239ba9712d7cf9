/- Walks: the printer's expressions. -/
import Derived.Test.YtnhblghplohonaaGreatDoorAbW3
set_option linter.unusedSimpArgs false
set_option linter.unusedVariables false
namespace Go.Proofs.YtnhblghplohonaaGreatDoor.Ab
open Go
variable {m : Int}

/-- No operator's sign. -/
def plainB (c : UInt8) : Prop := c ≠ 45 ∧ c ≠ 126 ∧ c ≠ 33 ∧ c ≠ 38
theorem named_head {s : List UInt8} (h : named s = true) : ∃ c r, s = c :: r ∧ plainB c := by
  cases s with
  | nil => cases h
  | cons c r =>
    simp only [named, Bool.and_eq_true, List.all_cons] at h
    have hw := h.2.1
    refine ⟨c, r, rfl, ?_, ?_, ?_, ?_⟩ <;> rintro rfl <;> revert hw <;> decide
theorem name_head {s : List UInt8} (h : name s = true) : ∃ c r, s = c :: r ∧ plainB c := by
  unfold name at h; simp only [Bool.and_eq_true] at h; exact named_head h.1
theorem dec_head (u : Nat) : ∃ c r, Lib.decDigits u = c :: r ∧ plainB c := by
  induction u using Nat.strongRecOn with
  | ind u ih =>
    by_cases h : u < 10
    · rw [decDigits_small h]
      refine ⟨_, [], rfl, ?_⟩
      have : ∀ v, v < 10 → plainB (UInt8.ofNat (48 + v)) := by unfold plainB; decide
      exact this u h
    · obtain ⟨c, r, e, hp⟩ := ih (u / 10) (by omega)
      rw [decDigits_big h, e]
      exact ⟨c, _, rfl, hp⟩
theorem un_tokens {s : List UInt8} (h : one unS s = true) : s ∈ [[45], [126], [33], [38]] := one_cases h (by decide +kernel)
theorem opL_le (s : List UInt8) : opL s ≤ 11 := by
  unfold opL
  have ite_le : ∀ {c : Prop} [Decidable c] {a b : Int}, a ≤ 11 → b ≤ 11 → (if c then a else b) ≤ 11 := by intro c _ a b ha hb; by_cases h : c; rw [if_pos h]; exact ha; rw [if_neg h]; exact hb
  iterate 9 refine ite_le (by decide) ?_
  decide
theorem par_head {a : Nd} {k : Int} (hk : k = 12 ∨ k = 13) (ha : okE a = true) (ih : (a.kind ≤ 9 ∨ a.kind = 14 ∨ a.kind = 15) → ∃ c r, tx a = c :: r ∧ (a.kind = 9 → a.str = [c]) ∧ (a.kind ≠ 9 → plainB c)) :
    ∃ c r, par a k (tx a) = c :: r ∧ (a.kind = 9 → k = 12 → a.str = [c]) ∧ (a.kind ≠ 9 ∨ k = 13 → plainB c) := by
  obtain ⟨h1, h2, _⟩ := okE_parts ha
  have hp40 : plainB 40 := by unfold plainB; decide
  unfold par
  by_cases hl : levelN a < k
  · rw [if_pos hl]
    refine ⟨40, _, rfl, fun h9 hk12 => ?_, fun _ => hp40⟩
    exfalso
    unfold levelN at hl
    rw [h9] at hl
    simp at hl
    omega
  · rw [if_neg hl]
    have hkind : a.kind ≤ 9 ∨ a.kind = 14 ∨ a.kind = 15 := by
      refine Classical.byContradiction fun hn => hl ?_
      have hk4 : a.kind = 10 ∨ a.kind = 11 ∨ a.kind = 12 ∨ a.kind = 13 := by omega
      unfold levelN
      have hop := opL_le a.str
      rcases hk4 with h | h | h | h <;> simp [h] <;> omega
    obtain ⟨c, r, e, q1, q2⟩ := ih hkind
    refine ⟨c, r, e, fun h9 _ => q1 h9, fun hn => ?_⟩
    rcases hn with hn | hn
    · exact q2 hn
    · by_cases h9 : a.kind = 9
      · exfalso; apply hl; unfold levelN; rw [h9]; simp; omega
      · exact q2 h9
theorem tx_head : ∀ n : Nd, okE n = true → (n.kind ≤ 9 ∨ n.kind = 14 ∨ n.kind = 15) → ∃ c r, tx n = c :: r ∧ (n.kind = 9 → n.str = [c]) ∧ (n.kind ≠ 9 → plainB c) := by
  refine Nd.ind fun n ih ho hk => ?_
  obtain ⟨h1, h2, _⟩ := okE_parts ho
  have hex := okE_exprs ho
  rcases (by omega : n.kind = 1 ∨ n.kind = 2 ∨ n.kind = 3 ∨ n.kind = 4 ∨ n.kind = 5 ∨ n.kind = 6 ∨ n.kind = 7 ∨ n.kind = 8 ∨ n.kind = 9 ∨ n.kind = 14 ∨ n.kind = 15) with h | h | h | h | h | h | h | h | h | h | h
  · obtain ⟨c, r, e, hp⟩ := dec_head n.num.toNat
    rw [tx_1 h, e]
    exact ⟨c, _, rfl, fun h9 => by omega, fun _ => hp⟩
  · rw [tx_2 h]
    exact ⟨39, _, rfl, fun h9 => by omega, fun _ => by unfold plainB; decide⟩
  · rw [tx_3 h]
    exact ⟨34, _, rfl, fun h9 => by omega, fun _ => by unfold plainB; decide⟩
  · have : name n.str = true := by unfold exprsP at hex; simp [h] at hex; exact hex.1.2
    obtain ⟨c, r, e, hp⟩ := name_head this
    rw [tx_4 h, e]
    exact ⟨c, r, rfl, fun h9 => by omega, fun _ => hp⟩
  · obtain ⟨x, y, hl, hx, hy⟩ := okE_E2 ho (.inl h)
    obtain ⟨c, r, e, _, hp⟩ := par_head (k := 13) (.inr rfl) hx (ih x (by rw [hl]; simp) hx)
    rw [tx_5 h hl, e]
    exact ⟨c, _, rfl, fun h9 => by omega, fun _ => hp (.inr rfl)⟩
  · obtain ⟨x, hl, hx⟩ := okE_E1 ho (.inl h)
    obtain ⟨c, r, e, _, hp⟩ := par_head (k := 13) (.inr rfl) hx (ih x (by rw [hl]; simp) hx)
    rw [tx_6 h hl, e]
    exact ⟨c, _, rfl, fun h9 => by omega, fun _ => hp (.inr rfl)⟩
  · obtain ⟨x, hl, hx⟩ := okE_E1 ho (.inr (.inl h))
    obtain ⟨c, r, e, _, hp⟩ := par_head (k := 13) (.inr rfl) hx (ih x (by rw [hl]; simp) hx)
    rw [tx_7 h hl, e]
    exact ⟨c, _, rfl, fun h9 => by omega, fun _ => hp (.inr rfl)⟩
  · have hc : ∃ c r, n.str = c :: r ∧ plainB c := by
      unfold exprsP at hex; simp [h] at hex
      rcases hex.1.2 with (hx | hx) | hx
      · exact name_head hx
      · rw [hx]; exact ⟨_, _, rfl, by unfold plainB; decide⟩
      · rw [hx]; exact ⟨_, _, rfl, by unfold plainB; decide⟩
    obtain ⟨c, r, e, hp⟩ := hc
    rw [tx_8 h, e]
    exact ⟨c, _, rfl, fun h9 => by omega, fun _ => hp⟩
  · obtain ⟨x, hl, hx⟩ := okE_E1 ho (.inr (.inr h))
    have ht := un_tokens (okE_un ho h)
    rw [tx_9 h hl]
    simp only [List.mem_cons, List.not_mem_nil, or_false] at ht
    rcases ht with e | e | e | e <;> rw [e] <;> exact ⟨_, _, rfl, fun _ => rfl, fun h9 => absurd h h9⟩
  · obtain ⟨x, y, hl, _⟩ := okE_C ho h
    rw [tx_14 h hl]
    exact ⟨40, _, rfl, fun h9 => by omega, fun _ => by unfold plainB; decide⟩
  · obtain ⟨x, hl, _⟩ := okE_S ho h
    rw [tx_15 h hl]
    have : plainB 115 := by unfold plainB; decide
    split
    · exact ⟨115, _, rfl, fun h9 => by omega, fun _ => this⟩
    · split
      · exact ⟨115, _, rfl, fun h9 => by omega, fun _ => this⟩
      · exact ⟨115, _, rfl, fun h9 => by omega, fun _ => this⟩
/-- What stands behind a sign: whether it is the same sign. -/
theorem un_head {n a : Nd} (ho : okE n = true) (hk : n.kind = 9) (hl : n.kids = [a]) : ∃ c d r, n.str = [c] ∧ par a 12 (tx a) = d :: r ∧ ((d == c) = true ↔ (a.kind = 9 ∧ a.str = n.str)) := by
  obtain ⟨x, hl', hx⟩ := okE_E1 ho (.inr (.inr hk))
  obtain rfl : a = x := by rw [hl] at hl'; simpa using hl'
  have ht := un_tokens (okE_un ho hk)
  obtain ⟨d, r, e, h9, hp⟩ := par_head (k := 12) (.inl rfl) hx (tx_head a hx)
  have hc : ∃ c, n.str = [c] ∧ ¬ plainB c := by
    simp only [List.mem_cons, List.not_mem_nil, or_false] at ht
    unfold plainB
    rcases ht with e | e | e | e <;> rw [e] <;> exact ⟨_, rfl, by decide⟩
  obtain ⟨c, hc, hnp⟩ := hc
  refine ⟨c, d, r, hc, e, ?_⟩
  rw [hc, beq_iff_eq]
  constructor
  · intro hdc
    by_cases hk9 : a.kind = 9
    · exact ⟨hk9, by rw [h9 hk9 rfl, hdc]⟩
    · exact absurd (hdc ▸ hp (.inl hk9)) hnp
  · rintro ⟨hk9, hs⟩
    have := h9 hk9 rfl
    rw [hs] at this
    simpa using this.symm
theorem Buf.insert {lo p : Nat} {H : Heap} {T : List UInt8} (h : Buf lo H p T) {i : Nat} (hi : i < T.length) (hc : T.length ≤ 1099511627776) :
    ∃ v B v' H' H'', M.load false 1 (.ref p 0) H = .ok v ∧ M.indexSl 1 v (.int .i64 (i : Int)) = .ok (.ref B i) ∧ M.load false 1 (.ref B i) H = .ok (.int .u8 T[i].toNat) ∧
      W m 104 [v, .int .i64 (i : Int), .sl H.n 0 1 1] (H.alloc (.cells 5 [.int .u8 32])) = .ok (v', H') ∧ M.load false 1 (.ref p 0) H = .ok v ∧ M.store 1 (.ref p 0) v' H' = .ok H'' ∧ Buf lo H'' p (T.take i ++ 32 :: T.drop i) ∧ H''.low ≤ p := by
  obtain ⟨e, v, hg, hf, hne, hc1, ho⟩ := h.h
  rcases hf with ⟨rfl, rfl⟩ | ⟨B, e', rfl, hB, hBn, hgB⟩
  · simp at hi
  · have hpB : p ≠ B := fun e => hne _ (by rw [e])
    have hpn := h.pn
    have hgB' : (H.alloc (.cells 5 [.int .u8 32])).get B = some (.cells e' (bytes T)) := by rw [Heap.get_alloc, if_neg (by omega)]; exact hgB
    have hgn : (H.alloc (.cells 5 [.int .u8 32])).get H.n = some (.cells 5 [.int .u8 32]) := by rw [Heap.get_alloc, if_pos rfl]
    have hins := sInsert (m := m) hgB' hgn (by omega) hi (bytes_length T).symm hc
    have hl1 : M.load false 1 (.ref p 0) H = .ok (.sl B 0 T.length 1) := by simp only [M.load, Heap.cells, hg, M.ldc]; rfl
    refine ⟨_, B, _, _, (((H.alloc (.cells 5 [.int .u8 32])).kill B).alloc (.cells 5 ((bytes T).take i ++ .int .u8 32 :: (bytes T).drop i))).set p (.cells e [.sl (H.alloc (.cells 5 [.int .u8 32])).n 0 (T.length + 1) 1]), hl1, ?_, ?_, hins, hl1, ?_, ⟨h.pl, ?_, ?_, e, .sl (H.alloc (.cells 5 [.int .u8 32])).n 0 (T.length + 1) 1, ?_, ?_, ?_, rfl, rfl⟩, ?_⟩
    · simp [M.indexSl, hi]
    · have : (bytes T)[i]? = some (.int .u8 T[i].toNat) := by simp [bytes, List.getElem?_eq_getElem hi]
      simp only [M.load, Heap.cells, hgB, M.ldc, Bool.false_eq_true, if_false, this]
    · have hgp : (((H.alloc (.cells 5 [.int .u8 32])).kill B).alloc (.cells 5 ((bytes T).take i ++ .int .u8 32 :: (bytes T).drop i))).get p = some (.cells e [.sl B 0 T.length 1]) := by
        rw [Heap.get_alloc, if_neg (by simp [Heap.kill, Heap.alloc]; omega), Heap.get_kill, if_neg hpB, Heap.get_alloc, if_neg (by omega)]; exact hg
      simp only [M.store, hgp, M.stc]
      simp [M.over, AV.one, AV.cells]
    · simp [Heap.set, Heap.alloc, Heap.kill]; omega
    · simp only [Heap.set, Heap.alloc, Heap.kill]; have := h.pl; have := h.lw; omega
    · rw [Heap.get_set, if_pos rfl]
    · have hlen : (T.take i ++ 32 :: T.drop i).length = T.length + 1 := by simp; omega
      refine .inr ⟨(H.alloc (.cells 5 [.int .u8 32])).n, 5, by rw [hlen], by simp [Heap.alloc]; have := h.pl; omega, by simp [Heap.set, Heap.alloc, Heap.kill], ?_⟩
      rw [Heap.get_set, if_neg (by simp [Heap.alloc]; omega), Heap.get_alloc, if_pos (by simp [Heap.alloc, Heap.kill])]
      simp [bytes]
    · intro n he
      injection he with he
      simp [Heap.alloc] at he; omega
    · simp only [Heap.set]; omega
mutual
/-- All numbers are of 32 bits. -/
def numB : Nd → Bool
  | .mk _ _ n _ _ l _ => decide (0 ≤ n) && decide (n < 4294967296) && numBs l
def numBs : List Nd → Bool
  | [] => true
  | x :: r => numB x && numBs r
end
theorem numBs_all : ∀ l : List Nd, numBs l = l.all numB
  | [] => rfl
  | x :: r => by rw [numBs, numBs_all r, List.all_cons]
theorem numB_parts {n : Nd} (h : numB n = true) : 0 ≤ n.num ∧ n.num < 4294967296 ∧ ∀ x ∈ n.kids, numB x = true := by
  cases n
  unfold numB at h
  rw [numBs_all] at h
  simp only [Bool.and_eq_true, decide_eq_true_eq, List.all_eq_true] at h
  exact ⟨h.1.1, h.1.2, h.2⟩
theorem s_expr : ∀ n : Nd, n.sz < 67108864 → okE n = true → numB n = true → EX m n := by
  refine Nd.ind fun n ih hs ho hnum => ?_
  have hnp := numB_parts hnum
  intro lo p H t h hc
  have hn := fit_of (n := n) (by omega)
  have hsn := hn.s
  have ihk : ∀ x ∈ n.kids, okE x = true → EX m x := fun x hx hox => ih x hx (by have := Nd.sz_kid hx; omega) hox (hnp.2.2 x hx)
  have kid : ∀ x ∈ n.kids, okE x = true → EX m x ∧ x.str.length < 1073741824 ∧ lvOk x := fun x hx hox => ⟨ihk x hx hox, (fit_of (by have := Nd.sz_kid hx; omega)).s, okE_lv hox⟩
  have hkids : ∀ x ∈ n.kids, x.str.length < 67108864 := fun x hx => by have h1 := Nd.sz_kid hx; rw [x.sz_eq] at h1; omega
  have hB := buf_like lo p
  have hpo := okE_parts ho
  have hsim := s_simple (m := m) hs ho ⟨hnp.1, hnp.2.1⟩ ihk h.start hc
  rw [n.av_eq]
  refine Res.call (fun r hr => c82 rfl _ n.kind n.str n.num n.flag _ n.pos H hr) ?_
  unfold g82 jn
  simp only [fold_cs, fold_av]
  refine Res.bindV (St.init hB h) hsim fun H1 s1 => ?_
  cases hsi : isSimple n with
  | true =>
    rw [hsi, if_pos rfl] at s1
    simp -implicitDefEqProofs only [bind_ok, onO_some, Locs.find, beq_self_eq_true, if_true, Nat.reduceBEq, Bool.false_eq_true, if_false, ldc_cs, ldc_cs0, ldc_cs1, ldc_cs2, ldc_cs3, ldc_cs4, index_kv0, index_kv1, index_kv2, index_kv3, load_cs, load_cs0, load_cs0', load_cs1, load_cs2, load_cs3, load_cs4, fa_iptr, List.getD_cons_zero, List.getD_cons_succ, cond_tt, cond_ff, fill1, fill2, fill3, fill4, chunks1, chunks2, chunks3, chunks4, nil_ref, fa_ref, Nat.add_zero, stc_av6, bin_eql, Int.reduceBEq]
    exact Res.fin hB h s1
  | false =>
    rw [hsi, if_neg (by decide)] at s1
    have hk9 : 9 ≤ n.kind := by unfold isSimple at hsi; simp at hsi; omega
    simp -implicitDefEqProofs only [bind_ok, onO_some, Locs.find, beq_self_eq_true, if_true, Nat.reduceBEq, Bool.false_eq_true, if_false, ldc_cs, ldc_cs0, ldc_cs1, ldc_cs2, ldc_cs3, ldc_cs4, index_kv0, index_kv1, index_kv2, index_kv3, load_cs, load_cs0, load_cs0', load_cs1, load_cs2, load_cs3, load_cs4, fa_iptr, List.getD_cons_zero, List.getD_cons_succ, cond_tt, cond_ff, fill1, fill2, fill3, fill4, chunks1, chunks2, chunks3, chunks4, nil_ref, fa_ref, Nat.add_zero, stc_av6, bin_eql, Int.reduceBEq]
    rcases (by omega : n.kind = 9 ∨ n.kind = 10 ∨ n.kind = 11 ∨ n.kind = 12 ∨ n.kind = 13 ∨ n.kind = 14 ∨ n.kind = 15) with hk | hk | hk | hk | hk | hk | hk
    all_goals simp -implicitDefEqProofs only [hk, bind_ok, onO_some, Locs.find, beq_self_eq_true, if_true, Nat.reduceBEq, Bool.false_eq_true, if_false, ldc_cs, ldc_cs0, ldc_cs1, ldc_cs2, ldc_cs3, ldc_cs4, index_kv0, index_kv1, index_kv2, index_kv3, load_cs, load_cs0, load_cs0', load_cs1, load_cs2, load_cs3, load_cs4, fa_iptr, List.getD_cons_zero, List.getD_cons_succ, cond_tt, cond_ff, fill1, fill2, fill3, fill4, chunks1, chunks2, chunks3, chunks4, nil_ref, fa_ref, Nat.add_zero, stc_av6, bin_eql, Int.reduceBEq]
    · -- a sign
      obtain ⟨x, hl, hx⟩ := okE_E1 ho (.inr (.inr hk))
      obtain ⟨c, d, r, hc1, hd, hiff⟩ := un_head ho hk hl
      obtain ⟨x1, x2, x3⟩ := kid x (by rw [hl]; simp) hx
      rw [tx_9 hk hl] at hc ⊢
      simp only [List.length_append] at hc
      refine Res.bind s1 (put1 n.str s1.b (by omega)) fun H2 s2 => ?_
      obtain ⟨v0, l1, l2, _, _⟩ := s2.b.load
      simp -implicitDefEqProofs only [hl, l1, l2, bind_ok, onO_some, Locs.find, beq_self_eq_true, if_true, Nat.reduceBEq, Bool.false_eq_true, if_false, ldc_cs, ldc_cs0, ldc_cs1, ldc_cs2, ldc_cs3, ldc_cs4, index_kv0, index_kv1, index_kv2, index_kv3, load_cs, load_cs0, load_cs0', load_cs1, load_cs2, load_cs3, load_cs4, fa_iptr, List.getD_cons_zero, List.getD_cons_succ, cond_tt, cond_ff, fill1, fill2, fill3, fill4, chunks1, chunks2, chunks3, chunks4, nil_ref, fa_ref, Nat.add_zero, stc_av6, bin_eql, Int.reduceBEq]
      refine Res.bind s2 (s_at x1 x2 x3 12 s2.b (by simp; omega)) fun H3 s3 => ?_
      have hTlen : (t ++ n.str).length < (t ++ n.str ++ par x 12 (tx x)).length := by rw [hd]; simp
      have hTd : (t ++ n.str ++ par x 12 (tx x))[(t ++ n.str).length]'hTlen = d := by
        rw [List.getElem_append_right (Nat.le_refl _)]; simp [hd]
      obtain ⟨v, B, v', H', H'', e1, e2, e3, e4, e5, e6, hb, hw⟩ := Buf.insert (m := m) s3.b hTlen (by simp; omega)
      rw [hTd] at e3
      have i0 : M.indexStr (.str n.str) (.int .i64 0) = .ok (.int .u8 c.toNat) := index_str (by decide) (by rw [hc1]; rfl)
      have hbeq : ((d.toNat : Int) == (c.toNat : Int)) = (d == c) := by
        rw [Bool.eq_iff_iff]; simp only [beq_iff_eq]
        constructor
        · intro h; exact UInt8.toNat_inj.mp (by omega)
        · rintro rfl; rfl
      simp -implicitDefEqProofs only [e1, e2, e3, i0, hbeq, bind_ok, onO_some, Locs.find, beq_self_eq_true, if_true, Nat.reduceBEq, Bool.false_eq_true, if_false, ldc_cs, ldc_cs0, ldc_cs1, ldc_cs2, ldc_cs3, ldc_cs4, index_kv0, index_kv1, index_kv2, index_kv3, load_cs, load_cs0, load_cs0', load_cs1, load_cs2, load_cs3, load_cs4, fa_iptr, List.getD_cons_zero, List.getD_cons_succ, cond_tt, cond_ff, fill1, fill2, fill3, fill4, chunks1, chunks2, chunks3, chunks4, nil_ref, fa_ref, Nat.add_zero, stc_av6, bin_eql, Int.reduceBEq]
      cases hdc : (d == c) with
      | true =>
        have hcond := hiff.mp hdc
        simp -implicitDefEqProofs only [e1, e4, e6, bind_ok, onO_some, Locs.find, beq_self_eq_true, if_true, Nat.reduceBEq, Bool.false_eq_true, if_false, ldc_cs, ldc_cs0, ldc_cs1, ldc_cs2, ldc_cs3, ldc_cs4, index_kv0, index_kv1, index_kv2, index_kv3, load_cs, load_cs0, load_cs0', load_cs1, load_cs2, load_cs3, load_cs4, fa_iptr, List.getD_cons_zero, List.getD_cons_succ, cond_tt, cond_ff, fill1, fill2, fill3, fill4, chunks1, chunks2, chunks3, chunks4, nil_ref, fa_ref, Nat.add_zero, stc_av6, bin_eql, Int.reduceBEq]
        rw [if_pos hcond]
        refine Res.fin' hB h ⟨hb, .inl hw⟩ ?_
        rw [List.take_left, List.drop_left]
        simp
      | false =>
        have hcond : ¬ (x.kind = 9 ∧ x.str = n.str) := fun h => by rw [hiff.mpr h] at hdc; cases hdc
        simp -implicitDefEqProofs only [bind_ok, onO_some, Locs.find, beq_self_eq_true, if_true, Nat.reduceBEq, Bool.false_eq_true, if_false, ldc_cs, ldc_cs0, ldc_cs1, ldc_cs2, ldc_cs3, ldc_cs4, index_kv0, index_kv1, index_kv2, index_kv3, load_cs, load_cs0, load_cs0', load_cs1, load_cs2, load_cs3, load_cs4, fa_iptr, List.getD_cons_zero, List.getD_cons_succ, cond_tt, cond_ff, fill1, fill2, fill3, fill4, chunks1, chunks2, chunks3, chunks4, nil_ref, fa_ref, Nat.add_zero, stc_av6, bin_eql, Int.reduceBEq]
        rw [if_neg hcond]
        exact Res.fin' hB h s3 (by simp)
    · -- an operator
      obtain ⟨x, y, hl, hx, hy⟩ := okE_E2 ho (.inr (.inl hk))
      obtain ⟨x1, x2, x3⟩ := kid x (by rw [hl]; simp) hx
      obtain ⟨y1, y2, y3⟩ := kid y (by rw [hl]; simp) hy
      have hop := fun H => s_op (m := m) hsn H
      rw [op_level (okE_op ho (.inl hk))] at hop
      have hw : IntKind.wrap .i64 (opL n.str + 1) = opL n.str + 1 := wrap_i64 (by have := opL_ge n.str; omega) (by have := opL_le n.str; omega)
      rw [tx_10 (.inl hk) hl] at hc ⊢
      simp only [List.length_append, List.length_cons] at hc
      simp -implicitDefEqProofs only [hl, hop, bind_ok, onO_some, Locs.find, beq_self_eq_true, if_true, Nat.reduceBEq, Bool.false_eq_true, if_false, ldc_cs, ldc_cs0, ldc_cs1, ldc_cs2, ldc_cs3, ldc_cs4, index_kv0, index_kv1, index_kv2, index_kv3, load_cs, load_cs0, load_cs0', load_cs1, load_cs2, load_cs3, load_cs4, fa_iptr, List.getD_cons_zero, List.getD_cons_succ, cond_tt, cond_ff, fill1, fill2, fill3, fill4, chunks1, chunks2, chunks3, chunks4, nil_ref, fa_ref, Nat.add_zero, stc_av6, bin_eql, Int.reduceBEq]
      refine Res.bind s1 (s_at x1 x2 x3 _ s1.b (by omega)) fun H2 s2 => ?_
      simp -implicitDefEqProofs only [hl, bind_ok, onO_some, Locs.find, beq_self_eq_true, if_true, Nat.reduceBEq, Bool.false_eq_true, if_false, ldc_cs, ldc_cs0, ldc_cs1, ldc_cs2, ldc_cs3, ldc_cs4, index_kv0, index_kv1, index_kv2, index_kv3, load_cs, load_cs0, load_cs0', load_cs1, load_cs2, load_cs3, load_cs4, fa_iptr, List.getD_cons_zero, List.getD_cons_succ, cond_tt, cond_ff, fill1, fill2, fill3, fill4, chunks1, chunks2, chunks3, chunks4, nil_ref, fa_ref, Nat.add_zero, stc_av6, bin_eql, Int.reduceBEq]
      refine Res.bind s2 (put3 [32] n.str [32] s2.b (by simp; omega)) fun H3 s3 => ?_
      simp -implicitDefEqProofs only [hl, bin_add, hw, bind_ok, onO_some, Locs.find, beq_self_eq_true, if_true, Nat.reduceBEq, Bool.false_eq_true, if_false, ldc_cs, ldc_cs0, ldc_cs1, ldc_cs2, ldc_cs3, ldc_cs4, index_kv0, index_kv1, index_kv2, index_kv3, load_cs, load_cs0, load_cs0', load_cs1, load_cs2, load_cs3, load_cs4, fa_iptr, List.getD_cons_zero, List.getD_cons_succ, cond_tt, cond_ff, fill1, fill2, fill3, fill4, chunks1, chunks2, chunks3, chunks4, nil_ref, fa_ref, Nat.add_zero, stc_av6, bin_eql, Int.reduceBEq]
      refine Res.bind s3 (s_at y1 y2 y3 _ s3.b (by simp; omega)) fun H4 s4 => ?_
      exact Res.fin' hB h s4 (by simp)
    · -- an operator
      obtain ⟨x, y, hl, hx, hy⟩ := okE_E2 ho (.inr (.inr hk))
      obtain ⟨x1, x2, x3⟩ := kid x (by rw [hl]; simp) hx
      obtain ⟨y1, y2, y3⟩ := kid y (by rw [hl]; simp) hy
      have hop := fun H => s_op (m := m) hsn H
      rw [op_level (okE_op ho (.inr hk))] at hop
      have hw : IntKind.wrap .i64 (opL n.str + 1) = opL n.str + 1 := wrap_i64 (by have := opL_ge n.str; omega) (by have := opL_le n.str; omega)
      rw [tx_10 (.inr hk) hl] at hc ⊢
      simp only [List.length_append, List.length_cons] at hc
      simp -implicitDefEqProofs only [hl, hop, bind_ok, onO_some, Locs.find, beq_self_eq_true, if_true, Nat.reduceBEq, Bool.false_eq_true, if_false, ldc_cs, ldc_cs0, ldc_cs1, ldc_cs2, ldc_cs3, ldc_cs4, index_kv0, index_kv1, index_kv2, index_kv3, load_cs, load_cs0, load_cs0', load_cs1, load_cs2, load_cs3, load_cs4, fa_iptr, List.getD_cons_zero, List.getD_cons_succ, cond_tt, cond_ff, fill1, fill2, fill3, fill4, chunks1, chunks2, chunks3, chunks4, nil_ref, fa_ref, Nat.add_zero, stc_av6, bin_eql, Int.reduceBEq]
      refine Res.bind s1 (s_at x1 x2 x3 _ s1.b (by omega)) fun H2 s2 => ?_
      simp -implicitDefEqProofs only [hl, bind_ok, onO_some, Locs.find, beq_self_eq_true, if_true, Nat.reduceBEq, Bool.false_eq_true, if_false, ldc_cs, ldc_cs0, ldc_cs1, ldc_cs2, ldc_cs3, ldc_cs4, index_kv0, index_kv1, index_kv2, index_kv3, load_cs, load_cs0, load_cs0', load_cs1, load_cs2, load_cs3, load_cs4, fa_iptr, List.getD_cons_zero, List.getD_cons_succ, cond_tt, cond_ff, fill1, fill2, fill3, fill4, chunks1, chunks2, chunks3, chunks4, nil_ref, fa_ref, Nat.add_zero, stc_av6, bin_eql, Int.reduceBEq]
      refine Res.bind s2 (put3 [32] n.str [32] s2.b (by simp; omega)) fun H3 s3 => ?_
      simp -implicitDefEqProofs only [hl, bin_add, hw, bind_ok, onO_some, Locs.find, beq_self_eq_true, if_true, Nat.reduceBEq, Bool.false_eq_true, if_false, ldc_cs, ldc_cs0, ldc_cs1, ldc_cs2, ldc_cs3, ldc_cs4, index_kv0, index_kv1, index_kv2, index_kv3, load_cs, load_cs0, load_cs0', load_cs1, load_cs2, load_cs3, load_cs4, fa_iptr, List.getD_cons_zero, List.getD_cons_succ, cond_tt, cond_ff, fill1, fill2, fill3, fill4, chunks1, chunks2, chunks3, chunks4, nil_ref, fa_ref, Nat.add_zero, stc_av6, bin_eql, Int.reduceBEq]
      refine Res.bind s3 (s_at y1 y2 y3 _ s3.b (by simp; omega)) fun H4 s4 => ?_
      exact Res.fin' hB h s4 (by simp)
    · -- a condition
      obtain ⟨x, y, z, hl, hx, hy, hz⟩ := okE_E3 ho hk
      obtain ⟨x1, x2, x3⟩ := kid x (by rw [hl]; simp) hx
      obtain ⟨y1, y2, y3⟩ := kid y (by rw [hl]; simp) hy
      obtain ⟨z1, z2, z3⟩ := kid z (by rw [hl]; simp) hz
      rw [tx_12 hk hl] at hc ⊢
      simp only [List.length_append, List.length_cons] at hc
      simp -implicitDefEqProofs only [hl, bind_ok, onO_some, Locs.find, beq_self_eq_true, if_true, Nat.reduceBEq, Bool.false_eq_true, if_false, ldc_cs, ldc_cs0, ldc_cs1, ldc_cs2, ldc_cs3, ldc_cs4, index_kv0, index_kv1, index_kv2, index_kv3, load_cs, load_cs0, load_cs0', load_cs1, load_cs2, load_cs3, load_cs4, fa_iptr, List.getD_cons_zero, List.getD_cons_succ, cond_tt, cond_ff, fill1, fill2, fill3, fill4, chunks1, chunks2, chunks3, chunks4, nil_ref, fa_ref, Nat.add_zero, stc_av6, bin_eql, Int.reduceBEq]
      refine Res.bind s1 (s_at x1 x2 x3 _ s1.b (by omega)) fun H2 s2 => ?_
      refine Res.bind s2 (put1 [32, 63, 32] s2.b (by simp; omega)) fun H3 s3 => ?_
      simp -implicitDefEqProofs only [hl, bind_ok, onO_some, Locs.find, beq_self_eq_true, if_true, Nat.reduceBEq, Bool.false_eq_true, if_false, ldc_cs, ldc_cs0, ldc_cs1, ldc_cs2, ldc_cs3, ldc_cs4, index_kv0, index_kv1, index_kv2, index_kv3, load_cs, load_cs0, load_cs0', load_cs1, load_cs2, load_cs3, load_cs4, fa_iptr, List.getD_cons_zero, List.getD_cons_succ, cond_tt, cond_ff, fill1, fill2, fill3, fill4, chunks1, chunks2, chunks3, chunks4, nil_ref, fa_ref, Nat.add_zero, stc_av6, bin_eql, Int.reduceBEq]
      refine Res.bind s3 (s_at y1 y2 y3 _ s3.b (by simp; omega)) fun H4 s4 => ?_
      refine Res.bind s4 (put1 [32, 58, 32] s4.b (by simp; omega)) fun H5 s5 => ?_
      simp -implicitDefEqProofs only [hl, bind_ok, onO_some, Locs.find, beq_self_eq_true, if_true, Nat.reduceBEq, Bool.false_eq_true, if_false, ldc_cs, ldc_cs0, ldc_cs1, ldc_cs2, ldc_cs3, ldc_cs4, index_kv0, index_kv1, index_kv2, index_kv3, load_cs, load_cs0, load_cs0', load_cs1, load_cs2, load_cs3, load_cs4, fa_iptr, List.getD_cons_zero, List.getD_cons_succ, cond_tt, cond_ff, fill1, fill2, fill3, fill4, chunks1, chunks2, chunks3, chunks4, nil_ref, fa_ref, Nat.add_zero, stc_av6, bin_eql, Int.reduceBEq]
      refine Res.bind s5 (s_at z1 z2 z3 _ s5.b (by simp; omega)) fun H6 s6 => ?_
      exact Res.fin' hB h s6 (by simp)
    · -- an assignment
      obtain ⟨x, y, hl, hx, hy⟩ := okE_A ho hk
      obtain ⟨x1, x2, x3⟩ := kid x (by rw [hl]; simp) hx
      obtain ⟨y1, y2, y3⟩ := kid y (by rw [hl]; simp) hy
      rw [tx_13 hk hl] at hc ⊢
      simp only [List.length_append, List.length_cons] at hc
      simp -implicitDefEqProofs only [hl, bind_ok, onO_some, Locs.find, beq_self_eq_true, if_true, Nat.reduceBEq, Bool.false_eq_true, if_false, ldc_cs, ldc_cs0, ldc_cs1, ldc_cs2, ldc_cs3, ldc_cs4, index_kv0, index_kv1, index_kv2, index_kv3, load_cs, load_cs0, load_cs0', load_cs1, load_cs2, load_cs3, load_cs4, fa_iptr, List.getD_cons_zero, List.getD_cons_succ, cond_tt, cond_ff, fill1, fill2, fill3, fill4, chunks1, chunks2, chunks3, chunks4, nil_ref, fa_ref, Nat.add_zero, stc_av6, bin_eql, Int.reduceBEq]
      refine Res.bind s1 (s_at x1 x2 x3 _ s1.b (by omega)) fun H2 s2 => ?_
      simp -implicitDefEqProofs only [hl, bind_ok, onO_some, Locs.find, beq_self_eq_true, if_true, Nat.reduceBEq, Bool.false_eq_true, if_false, ldc_cs, ldc_cs0, ldc_cs1, ldc_cs2, ldc_cs3, ldc_cs4, index_kv0, index_kv1, index_kv2, index_kv3, load_cs, load_cs0, load_cs0', load_cs1, load_cs2, load_cs3, load_cs4, fa_iptr, List.getD_cons_zero, List.getD_cons_succ, cond_tt, cond_ff, fill1, fill2, fill3, fill4, chunks1, chunks2, chunks3, chunks4, nil_ref, fa_ref, Nat.add_zero, stc_av6, bin_eql, Int.reduceBEq]
      refine Res.bind s2 (put3 [32] n.str [32] s2.b (by simp; omega)) fun H3 s3 => ?_
      simp -implicitDefEqProofs only [hl, bind_ok, onO_some, Locs.find, beq_self_eq_true, if_true, Nat.reduceBEq, Bool.false_eq_true, if_false, ldc_cs, ldc_cs0, ldc_cs1, ldc_cs2, ldc_cs3, ldc_cs4, index_kv0, index_kv1, index_kv2, index_kv3, load_cs, load_cs0, load_cs0', load_cs1, load_cs2, load_cs3, load_cs4, fa_iptr, List.getD_cons_zero, List.getD_cons_succ, cond_tt, cond_ff, fill1, fill2, fill3, fill4, chunks1, chunks2, chunks3, chunks4, nil_ref, fa_ref, Nat.add_zero, stc_av6, bin_eql, Int.reduceBEq]
      refine Res.bind s3 (s_at y1 y2 y3 _ s3.b (by simp; omega)) fun H4 s4 => ?_
      exact Res.fin' hB h s4 (by simp)
    · -- a cast
      obtain ⟨x, y, hl, hx, hy⟩ := okE_C ho hk
      obtain ⟨y1, y2, y3⟩ := kid y (by rw [hl]; simp) hy
      rw [tx_14 hk hl] at hc ⊢
      simp only [List.length_append, List.length_cons] at hc
      simp -implicitDefEqProofs only [hl, bind_ok, onO_some, Locs.find, beq_self_eq_true, if_true, Nat.reduceBEq, Bool.false_eq_true, if_false, ldc_cs, ldc_cs0, ldc_cs1, ldc_cs2, ldc_cs3, ldc_cs4, index_kv0, index_kv1, index_kv2, index_kv3, load_cs, load_cs0, load_cs0', load_cs1, load_cs2, load_cs3, load_cs4, fa_iptr, List.getD_cons_zero, List.getD_cons_succ, cond_tt, cond_ff, fill1, fill2, fill3, fill4, chunks1, chunks2, chunks3, chunks4, nil_ref, fa_ref, Nat.add_zero, stc_av6, bin_eql, Int.reduceBEq]
      refine Res.bind s1 (put3 [40] x.str [41] s1.b (by simp; omega)) fun H2 s2 => ?_
      simp -implicitDefEqProofs only [hl, bind_ok, onO_some, Locs.find, beq_self_eq_true, if_true, Nat.reduceBEq, Bool.false_eq_true, if_false, ldc_cs, ldc_cs0, ldc_cs1, ldc_cs2, ldc_cs3, ldc_cs4, index_kv0, index_kv1, index_kv2, index_kv3, load_cs, load_cs0, load_cs0', load_cs1, load_cs2, load_cs3, load_cs4, fa_iptr, List.getD_cons_zero, List.getD_cons_succ, cond_tt, cond_ff, fill1, fill2, fill3, fill4, chunks1, chunks2, chunks3, chunks4, nil_ref, fa_ref, Nat.add_zero, stc_av6, bin_eql, Int.reduceBEq]
      refine Res.bind s2 (s_at y1 y2 y3 _ s2.b (by simp; omega)) fun H3 s3 => ?_
      exact Res.fin' hB h s3 (by simp)
    · -- a sizeof
      obtain ⟨x, hl, hx⟩ := okE_S ho hk
      rw [tx_15 hk hl] at hc ⊢
      simp -implicitDefEqProofs only [hl, bind_ok, onO_some, Locs.find, beq_self_eq_true, if_true, Nat.reduceBEq, Bool.false_eq_true, if_false, ldc_cs, ldc_cs0, ldc_cs1, ldc_cs2, ldc_cs3, ldc_cs4, index_kv0, index_kv1, index_kv2, index_kv3, load_cs, load_cs0, load_cs0', load_cs1, load_cs2, load_cs3, load_cs4, fa_iptr, List.getD_cons_zero, List.getD_cons_succ, cond_tt, cond_ff, fill1, fill2, fill3, fill4, chunks1, chunks2, chunks3, chunks4, nil_ref, fa_ref, Nat.add_zero, stc_av6, bin_eql, Int.reduceBEq]
      by_cases h16 : x.kind = 16
      · rw [if_pos h16] at hc ⊢
        simp only [List.length_append, List.length_cons, List.length_nil] at hc
        simp -implicitDefEqProofs only [h16, bind_ok, onO_some, Locs.find, beq_self_eq_true, if_true, Nat.reduceBEq, Bool.false_eq_true, if_false, ldc_cs, ldc_cs0, ldc_cs1, ldc_cs2, ldc_cs3, ldc_cs4, index_kv0, index_kv1, index_kv2, index_kv3, load_cs, load_cs0, load_cs0', load_cs1, load_cs2, load_cs3, load_cs4, fa_iptr, List.getD_cons_zero, List.getD_cons_succ, cond_tt, cond_ff, fill1, fill2, fill3, fill4, chunks1, chunks2, chunks3, chunks4, nil_ref, fa_ref, Nat.add_zero, stc_av6, bin_eql, Int.reduceBEq]
        refine Res.bind s1 (put3 [115, 105, 122, 101, 111, 102, 40] x.str [41] s1.b (by simp; omega)) fun H2 s2 => ?_
        exact Res.fin' hB h s2 (by simp)
      · have hx := hx.resolve_left h16
        obtain ⟨x1, x2, x3⟩ := kid x (by rw [hl]; simp) hx
        rw [if_neg h16] at hc ⊢
        by_cases h14 : x.kind = 14
        · rw [if_pos h14] at hc ⊢
          simp only [List.length_append, List.length_cons, List.length_nil] at hc
          simp -implicitDefEqProofs only [h14, bind_ok, onO_some, Locs.find, beq_self_eq_true, if_true, Nat.reduceBEq, Bool.false_eq_true, if_false, ldc_cs, ldc_cs0, ldc_cs1, ldc_cs2, ldc_cs3, ldc_cs4, index_kv0, index_kv1, index_kv2, index_kv3, load_cs, load_cs0, load_cs0', load_cs1, load_cs2, load_cs3, load_cs4, fa_iptr, List.getD_cons_zero, List.getD_cons_succ, cond_tt, cond_ff, fill1, fill2, fill3, fill4, chunks1, chunks2, chunks3, chunks4, nil_ref, fa_ref, Nat.add_zero, stc_av6, bin_eql, Int.reduceBEq]
          refine Res.bind s1 (put1 [115, 105, 122, 101, 111, 102, 32, 40] s1.b (by simp; omega)) fun H2 s2 => ?_
          refine Res.bind s2 (x1 lo p H2 _ s2.b (by simp; omega)) fun H3 s3 => ?_
          refine Res.bind s3 (put1 [41] s3.b (by simp; omega)) fun H4 s4 => ?_
          exact Res.fin' hB h s4 (by simp)
        · rw [if_neg h14] at hc ⊢
          simp only [List.length_append, List.length_cons, List.length_nil] at hc
          simp -implicitDefEqProofs only [beq_eq_false_iff_ne.2 h16, beq_eq_false_iff_ne.2 h14, bind_ok, onO_some, Locs.find, beq_self_eq_true, if_true, Nat.reduceBEq, Bool.false_eq_true, if_false, ldc_cs, ldc_cs0, ldc_cs1, ldc_cs2, ldc_cs3, ldc_cs4, index_kv0, index_kv1, index_kv2, index_kv3, load_cs, load_cs0, load_cs0', load_cs1, load_cs2, load_cs3, load_cs4, fa_iptr, List.getD_cons_zero, List.getD_cons_succ, cond_tt, cond_ff, fill1, fill2, fill3, fill4, chunks1, chunks2, chunks3, chunks4, nil_ref, fa_ref, Nat.add_zero, stc_av6, bin_eql, Int.reduceBEq]
          refine Res.bind s1 (put1 [115, 105, 122, 101, 111, 102, 32] s1.b (by simp; omega)) fun H2 s2 => ?_
          refine Res.bind s2 (s_at x1 x2 x3 _ s2.b (by simp; omega)) fun H3 s3 => ?_
          exact Res.fin' hB h s3 (by simp)
end Go.Proofs.YtnhblghplohonaaGreatDoor.Ab
