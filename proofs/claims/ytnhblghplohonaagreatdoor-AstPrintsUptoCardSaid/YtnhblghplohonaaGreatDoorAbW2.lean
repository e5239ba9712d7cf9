/- Walks: the printer's expressions. -/
import Derived.Test.YtnhblghplohonaaGreatDoorAbW1
set_option linter.unusedSimpArgs false
set_option linter.unusedVariables false
namespace Go.Proofs.YtnhblghplohonaaGreatDoor.Ab
open Go
variable {m : Int}

section
variable (a b c d : List UInt8)
theorem fill1 : M.fill (fun i => some (i * 1, 1)) [.str []] [(0, .str a)] = .ok [.str a] := rfl
theorem fill2 : M.fill (fun i => some (i * 1, 1)) [.str [], .str []] [(0, .str a), (1, .str b)] = .ok [.str a, .str b] := rfl
theorem fill3 : M.fill (fun i => some (i * 1, 1)) [.str [], .str [], .str []] [(0, .str a), (1, .str b), (2, .str c)] = .ok [.str a, .str b, .str c] := rfl
theorem fill4 : M.fill (fun i => some (i * 1, 1)) [.str [], .str [], .str [], .str []] [(0, .str a), (1, .str b), (2, .str c), (3, .str d)] = .ok [.str a, .str b, .str c, .str d] := rfl
theorem chunks1 (x : AV) : chunks false 1 1 [x] = [x] := rfl
theorem chunks2 (x y : AV) : chunks false 1 2 [x, y] = [x, y] := rfl
theorem chunks3 (x y z : AV) : chunks false 1 3 [x, y, z] = [x, y, z] := rfl
theorem chunks4 (x y z u : AV) : chunks false 1 4 [x, y, z, u] = [x, y, z, u] := rfl
end
/-- The printer's buffer. -/
abbrev PB (lo p : Nat) : Heap → List UInt8 → Prop := fun H t => Buf lo H p t
theorem Res.fin' {lo p : Nat} {B : Heap → List UInt8 → Prop} (hB : Like lo p B) {H0 H : Heap} {t0 t t' : List UInt8} (h0 : B H0 t0) (h : St p B H0 H t) (e : t = t') : Res p B H0 t' (.ok (gc (.tup []) H0 H)) := e ▸ Res.fin hB h0 h
theorem ResV.fin' {lo p : Nat} {B : Heap → List UInt8 → Prop} (hB : Like lo p B) {H0 H : Heap} {t0 t t' : List UInt8} {v : AV} (hv : clean H0.n v = true) (h0 : B H0 t0) (h : St p B H0 H t) (e : t = t') : ResV p B H0 t' v (.ok (gc v H0 H)) := e ▸ ResV.fin hB hv h0 h
section
variable {lo p : Nat} {H : Heap} {t : List UInt8}
theorem put1 (a : List UInt8) (h : Buf lo H p t) (hc : t.length + a.length ≤ 1099511627776) : Res p (PB lo p) H (t ++ a) (W m 31 [.ref p 0, .isl 1 [.str a]] H) := by
  have := s_put (m := m) [a] h (by simpa using hc) (by simp)
  simpa using this
theorem put2 (a b : List UInt8) (h : Buf lo H p t) (hc : t.length + (a.length + b.length) ≤ 1099511627776) : Res p (PB lo p) H (t ++ (a ++ b)) (W m 31 [.ref p 0, .isl 1 [.str a, .str b]] H) := by
  have := s_put (m := m) [a, b] h (by simpa using hc) (by simp)
  simpa using this
theorem put3 (a b c : List UInt8) (h : Buf lo H p t) (hc : t.length + (a.length + (b.length + c.length)) ≤ 1099511627776) : Res p (PB lo p) H (t ++ (a ++ (b ++ c))) (W m 31 [.ref p 0, .isl 1 [.str a, .str b, .str c]] H) := by
  have := s_put (m := m) [a, b, c] h (by simpa using hc) (by simp)
  simpa using this
theorem put4 (a b c d : List UInt8) (h : Buf lo H p t) (hc : t.length + (a.length + (b.length + (c.length + d.length))) ≤ 1099511627776) : Res p (PB lo p) H (t ++ (a ++ (b ++ (c ++ d)))) (W m 31 [.ref p 0, .isl 1 [.str a, .str b, .str c, .str d]] H) := by
  have := s_put (m := m) [a, b, c, d] h (by simpa using hc) (by simp)
  simpa using this
end
/-- What the printer's 'expression' does at a node. -/
def EX (m : Int) (n : Nd) : Prop := ∀ (lo p : Nat) (H : Heap) (t : List UInt8), Buf lo H p t → t.length + (tx n).length ≤ 1099511627776 → Res p (PB lo p) H (t ++ tx n) (W m 82 [.ref p 0, n.av] H)
theorem par_len (n : Nd) (k : Int) (t : List UInt8) : t.length ≤ (par n k t).length := by unfold par; split <;> simp; omega
theorem s_at {n : Nd} (hx : EX m n) (hs : n.str.length < 1073741824) (hl : lvOk n) {lo p : Nat} {H : Heap} {t : List UInt8} (k : Int) (h : Buf lo H p t) (hc : t.length + (par n k (tx n)).length ≤ 1099511627776) :
    Res p (PB lo p) H (t ++ par n k (tx n)) (W m 54 [.ref p 0, n.av, .int .i64 k] H) := by
  have a1 := fun H => s_level (m := m) hs hl H
  rw [n.av_eq]
  refine Res.call (fun r hr => c54 rfl _ n.kind n.str n.num n.flag _ n.pos k H hr) ?_
  unfold g54
  simp only [fold_cs, fold_av, a1, bind_ok, bin_lss]
  unfold par at hc ⊢
  by_cases hlt : levelN n < k
  · rw [if_pos hlt] at hc ⊢
    simp only [List.length_cons, List.length_append, List.length_nil] at hc
    simp only [hlt, decide_true, cond_tt]
    refine Res.bind (St.init (buf_like lo p) h) (put1 [40] h.start (by simp; omega)) fun H1 s1 => ?_
    refine Res.bind s1 (hx lo p H1 _ s1.b (by simp; omega)) fun H2 s2 => ?_
    refine Res.bind s2 (put1 [41] s2.b (by simp; omega)) fun H3 s3 => ?_
    exact Res.fin' (buf_like lo p) h s3 (by simp)
  · rw [if_neg hlt] at hc ⊢
    simp only [hlt, decide_false, cond_ff]
    refine Res.bind (St.init (buf_like lo p) h) (hx lo p H.start t h.start hc) fun H1 s1 => ?_
    exact Res.fin (buf_like lo p) h s1
theorem join2_len (sep : List UInt8) (x : List UInt8) (r : List (List UInt8)) : (join2 sep (x :: r)).length = sep.length + x.length + (join2 ([44, 32]) r).length := by simp [join2]; omega
theorem s_list {l : List Nd} (hl : l.length < 1099511627776) (hx : ∀ x ∈ l, EX m x ∧ x.str.length < 1073741824 ∧ lvOk x) (b : Bool) {lo p : Nat} {H : Heap} {t : List UInt8} (h : Buf lo H p t) (hc : t.length + (join2 [] (l.map tx)).length ≤ 1099511627776) :
    Res p (PB lo p) H (t ++ join2 [] (l.map tx)) (W m 55 [.ref p 0, kv b l] H) := by
  refine Res.call (fun r hr => c55 rfl _ _ H hr) ?_
  unfold g55
  have key : ∀ k i H1 t1 L, i + k = l.length → St p (PB lo p) H H1 t1 → t1.length + (join2 (if i = 0 then [] else [44, 32]) ((l.drop i).map tx)).length ≤ 1099511627776 →
      Res p (PB lo p) H (t1 ++ join2 (if i = 0 then [] else [44, 32]) ((l.drop i).map tx)) (loopW (g55_l1 (W m) loopW H) ([.ref p 0, kv b l, .int .i64 l.length, .int .i64 (i : Nat)], L, H1)) := by
    intro k
    induction k with
    | zero =>
      intro i H1 t1 L hi hs hc
      refine Res.done (x := .ok (gc (.tup []) H H1)) (fun k => ?_) ?_
      · unfold g55_l1
        simp -implicitDefEqProofs [show ¬ i < l.length by omega]
      · rw [List.drop_eq_nil_of_le (by omega)]
        exact Res.fin' (buf_like lo p) h hs (by simp [join2])
    | succ k ih =>
      intro i H1 t1 L hi hs hc
      have hil : i < l.length := by omega
      obtain ⟨x1, x2, x3⟩ := hx l[i] (List.getElem_mem hil)
      rw [List.drop_eq_getElem_cons hil, List.map_cons] at hc ⊢
      rw [join2_len] at hc
      rw [join2]
      have hz' : M.stc 6 [.int .i64 0, .str [], .int .u32 0, .bool false, nilSlice, .int .i64 0] 0 l[i].av = .ok l[i].cs := stc_av6 ..
      -- the state behind the comma
      have mid : ∃ H2, St p (PB lo p) H H2 (t1 ++ (if i = 0 then [] else [44, 32])) ∧ ∀ (K : Heap → Out Ans), (if i = 0 then K H1 else (W m 31 [.ref p 0, .isl 1 [.str [44, 32]]] H1).bind fun r => K r.2) = K H2 := by
        by_cases h0 : i = 0
        · exact ⟨H1, by simpa [h0] using hs, fun K => by rw [if_pos h0]⟩
        · rw [if_neg h0] at hc
          obtain ⟨H2, e, hb, hw⟩ := put1 (m := m) (lo := lo) (p := p) [44, 32] hs.b (by simp at hc ⊢; omega)
          refine ⟨H2, ⟨by rw [if_neg h0]; exact hb, ?_⟩, fun K => by rw [if_neg h0, e]; rfl⟩
          rcases hw with hw | rfl
          · exact .inl hw
          · exact hs.w
      obtain ⟨H2, hs2, hK⟩ := mid
      obtain ⟨H3, e3, hb3, hw3⟩ := s_at x1 x2 x3 0 hs2.b (by rw [par_0]; simp only [List.length_append]; omega)
      rw [par_0] at hb3
      have hs3 : St p (PB lo p) H H3 (t1 ++ (if i = 0 then [] else [44, 32]) ++ tx l[i]) := ⟨hb3, by
        rcases hw3 with hw3 | rfl
        · exact .inl hw3
        · exact hs2.w⟩
      refine Res.step (s' := ([.ref p 0, kv b l, .int .i64 l.length, .int .i64 ((i + 1 : Nat) : Int)], Locs.put (Locs.put L 5 [.int .i64 0, .str [], .int .u32 0, .bool false, nilSlice, .int .i64 0]) 5 l[i].cs, H3)) (fun k => ?_) ?_
      · unfold g55_l1 jn
        have w1 := wrap_i64 (x := (i : Int) + 1) (by omega) (by omega)
        have hlt : decide ((i : Int) < l.length) = true := decide_eq_true (by omega)
        by_cases h0 : i = 0
        · have hK := hK fun H2 => (W m 54 [.ref p 0, l[i].av, .int .i64 0] H2).bind fun r => k ([.ref p 0, kv b l, .int .i64 l.length, .int .i64 ((i : Int) + 1)], Locs.put (Locs.put L 5 [.int .i64 0, .str [], .int .u32 0, .bool false, nilSlice, .int .i64 0]) 5 l[i].cs, r.2)
          rw [if_pos h0, e3] at hK
          have hg : decide ((i : Int) > 0) = false := decide_eq_false (by omega)
          simp -implicitDefEqProofs only [List.getD_cons_zero, List.getD_cons_succ, bin_lss, bind_ok, hlt, cond_tt, index_kvn hil, load_cs, locs_put, onO_some, hz', bin_gtr, hg, cond_ff, ldc_cs, bin_add, w1, Int.natCast_add, Int.natCast_one]
          exact hK
        · have hK := hK fun H2 => (W m 54 [.ref p 0, l[i].av, .int .i64 0] H2).bind fun r => k ([.ref p 0, kv b l, .int .i64 l.length, .int .i64 ((i : Int) + 1)], Locs.put (Locs.put L 5 [.int .i64 0, .str [], .int .u32 0, .bool false, nilSlice, .int .i64 0]) 5 l[i].cs, r.2)
          rw [if_neg h0, e3] at hK
          have hg : decide ((i : Int) > 0) = true := decide_eq_true (by omega)
          simp -implicitDefEqProofs only [List.getD_cons_zero, List.getD_cons_succ, bin_lss, bind_ok, hlt, cond_tt, index_kvn hil, load_cs, locs_put, onO_some, hz', bin_gtr, hg, ldc_cs, bin_add, w1, Int.natCast_add, Int.natCast_one]
          exact hK
      · have := ih (i + 1) H3 _ (Locs.put (Locs.put L 5 [.int .i64 0, .str [], .int .u32 0, .bool false, nilSlice, .int .i64 0]) 5 l[i].cs) (by omega) hs3 (by rw [if_neg (Nat.succ_ne_zero i)]; simp only [List.length_append]; omega)
        rw [if_neg (Nat.succ_ne_zero i)] at this
        simpa only [List.append_assoc] using this
  simp -implicitDefEqProofs only [len_kv, bind_ok]
  have := key l.length 0 H.start t [] (by simp) (St.init (buf_like lo p) h) (by simpa using hc)
  simpa using this
end Go.Proofs.YtnhblghplohonaaGreatDoor.Ab
