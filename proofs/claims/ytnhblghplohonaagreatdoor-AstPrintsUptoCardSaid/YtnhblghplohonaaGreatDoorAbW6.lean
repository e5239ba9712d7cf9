/- Walks: the printer's declarations and statements. -/
import Derived.Test.YtnhblghplohonaaGreatDoorAbW5
set_option linter.unusedSimpArgs false
set_option linter.unusedVariables false
namespace Go.Proofs.YtnhblghplohonaaGreatDoor.Ab
open Go
variable {m : Int}
section
variable {lo p : Nat} {H : Heap} {t : List UInt8}

/-- Variables, with commas between; then ';'. -/
theorem vars_loop {l : List Nd} (hl : l.length < 1099511627776) (hx : ∀ x ∈ l, PV m x) (b : Bool) (j3 : LS → Out Ans) (tf : List UInt8)
    (hj : ∀ H3 L, St p (PB lo p) H H3 tf → Res p (PB lo p) H (tf ++ [10]) (j3 ([.ref p 0], L, H3))) (htf : tf.length ≤ 1099511627776) :
    ∀ k i H1 t1 L, i + k = l.length → St p (PB lo p) H H1 t1 → tf = t1 ++ (join2 (if i = 0 then [] else [44, 32]) ((l.drop i).map varT) ++ [59]) →
      Res p (PB lo p) H (tf ++ [10]) (loopW (g22_l25 (W m) loopW j3) ([.ref p 0, kv b l, .int .i64 l.length, .int .i64 (i : Nat)], L, H1)) := by
  intro k
  induction k with
  | zero =>
    intro i H1 t1 L hi hs he
    rw [List.drop_eq_nil_of_le (by omega)] at he
    simp only [List.map_nil, join2, List.nil_append] at he
    have hlen : t1.length + 1 ≤ 1099511627776 := by rw [he] at htf; simpa using htf
    obtain ⟨H3, e3, hs3⟩ := Res.st hs (put1 (m := m) [59] hs.b (by simpa using hlen))
    refine Res.done (x := j3 ([.ref p 0], L, H3)) (fun k => ?_) ?_
    · unfold g22_l25
      simp -implicitDefEqProofs only [List.getD_cons_zero, List.getD_cons_succ, bin_lss, bind_ok, decide_eq_false (show ¬ ((i : Int) < l.length) by omega), cond_ff, e3]
    · rw [he] at hj ⊢
      exact hj H3 L hs3
  | succ k ih =>
    intro i H1 t1 L hi hs he
    have hil : i < l.length := by omega
    rw [List.drop_eq_getElem_cons hil, List.map_cons, join2] at he
    have hlen := htf
    rw [he] at hlen
    simp only [List.length_append, List.length_cons, List.length_nil] at hlen
    have hz' : M.stc 6 [.int .i64 0, .str [], .int .u32 0, .bool false, nilSlice, .int .i64 0] 0 l[i].av = .ok l[i].cs := stc_av6 ..
    obtain ⟨H2, hs2, hK⟩ := sepP (m := m) [44, 32] hs i (by omega)
    obtain ⟨H3, e3, hs3⟩ := Res.st hs2 (s_var (hx l[i] (List.getElem_mem hil)) hs2.b (by rw [List.length_append]; omega))
    refine Res.step (s' := ([.ref p 0, kv b l, .int .i64 l.length, .int .i64 ((i + 1 : Nat) : Int)], Locs.put (Locs.put L 5 [.int .i64 0, .str [], .int .u32 0, .bool false, nilSlice, .int .i64 0]) 5 l[i].cs, H3)) (fun k => ?_) ?_
    · have w1 := wrap_i64 (x := (i : Int) + 1) (by omega) (by omega)
      have hlt : decide ((i : Int) < l.length) = true := decide_eq_true (by omega)
      have hK := hK fun H2 => (W m 34 [.ref p 0, l[i].av] H2).bind fun r => k ([.ref p 0, kv b l, .int .i64 l.length, .int .i64 ((i : Int) + 1)], Locs.put (Locs.put L 5 [.int .i64 0, .str [], .int .u32 0, .bool false, nilSlice, .int .i64 0]) 5 l[i].cs, r.2)
      rw [e3] at hK
      unfold g22_l25 jn
      by_cases h0 : i = 0
      · rw [if_pos h0] at hK
        have hg : decide ((i : Int) > 0) = false := decide_eq_false (by omega)
        simp -implicitDefEqProofs only [List.getD_cons_zero, List.getD_cons_succ, bin_lss, bind_ok, hlt, cond_tt, index_kvn hil, load_cs, locs_put, onO_some, hz', bin_gtr, hg, cond_ff, ldc_cs, bin_add, w1, Int.natCast_add, Int.natCast_one]
        exact hK
      · rw [if_neg h0] at hK
        have hg : decide ((i : Int) > 0) = true := decide_eq_true (by omega)
        simp -implicitDefEqProofs only [List.getD_cons_zero, List.getD_cons_succ, bin_lss, bind_ok, hlt, cond_tt, index_kvn hil, load_cs, locs_put, onO_some, hz', bin_gtr, hg, ldc_cs, bin_add, w1, Int.natCast_add, Int.natCast_one]
        exact hK
    · refine ih (i + 1) H3 _ _ (by omega) hs3 ?_
      rw [if_neg (Nat.succ_ne_zero i), he]
      simp only [List.append_assoc]
/-- A parameter that can be printed. -/
structure PP (v : Nd) : Prop where
  k : ∃ x, v.kids = [x]
  n : v.num = 0 ∨ v.num = 1
theorem repeat_star {v : Nd} (hv : PP v) (H : Heap) : W m 56 [.str [42], .int .i64 (IntKind.wrap .i64 v.num)] H = .ok (.str (if v.num = 1 then [42] else []), H) := by
  rcases hv.n with h | h
  · rw [h, wrap_i64 (by decide) (by decide)]; exact sRepeat0 _ _
  · rw [h, wrap_i64 (by decide) (by decide)]; exact sRepeat1 (by decide) _
theorem parT_eq {v x : Nd} (h : v.kids = [x]) : parT v = x.str ++ ([32] ++ ((if v.num = 1 then [42] else []) ++ v.str)) ++ (if v.flag then [91, 93] else []) := by
  unfold parT; rw [h]; simp
theorem pars_loop {n z : Nd} {l : List Nd} (hl : l.length < 1099511627776) (hx : ∀ x ∈ l, PP x) (b : Bool) (kk : Nat) (hz : n.kids[kk]? = some z) (hzl : z.kids.length < 1099511627776) (hzx : ∀ x ∈ z.kids, LX m x) (h : Buf lo H p t) (tf : List UInt8) (htf : tf.length ≤ 1099511627776) :
    ∀ k i H1 t1 L, i + k = l.length → Locs.find L 3 = some n.cs → St p (PB lo p) H H1 t1 → tf = t1 ++ (join2 (if i = 0 then [] else [44, 32]) ((l.drop i).map parT) ++ (41 :: 32 :: 123 :: 10 :: ((z.kids.map ln).flatten ++ [125]))) →
      Res p (PB lo p) H tf (loopW (g35_l4 (W m) loopW H) ([.ref p 0, .int .i64 kk, kv b l, .int .i64 l.length, .int .i64 (i : Nat)], L, H1)) := by
  intro k
  induction k with
  | zero =>
    intro i H1 t1 L hi hL hs he
    rw [List.drop_eq_nil_of_le (by omega)] at he
    simp only [List.map_nil, join2, List.nil_append] at he
    have hlen := htf
    rw [he] at hlen
    simp only [List.length_append, List.length_cons, List.length_nil] at hlen
    obtain ⟨H2, e2, hs2⟩ := Res.st hs (put1 (m := m) [41, 32] hs.b (by simp; omega))
    obtain ⟨H3, e3, hs3⟩ := Res.st hs2 (s_blockP hzl hzx z.nil hs2.b (by simp only [List.length_append, List.length_cons, List.length_nil]; omega))
    refine Res.done (x := .ok (gc (.tup []) H H3)) (fun k => ?_) ?_
    · have hzi : M.indexSl 6 (kv n.nil n.kids) (.int .i64 (kk : Int)) = .ok (.iptr z.cs) := index_kv (by omega) (by simpa using hz)
      unfold g35_l4
      simp -implicitDefEqProofs only [List.getD_cons_zero, List.getD_cons_succ, bin_lss, bind_ok, decide_eq_false (show ¬ ((i : Int) < l.length) by omega), cond_ff, e2, hL, onO_some, ldc_cs4, hzi, fa_iptr, load_cs4, e3]
    · exact Res.fin' (buf_like lo p) h hs3 (by rw [he]; simp)
  | succ k ih =>
    intro i H1 t1 L hi hL hs he
    have hil : i < l.length := by omega
    have hpp := hx l[i] (List.getElem_mem hil)
    obtain ⟨x, hxk⟩ := hpp.k
    rw [List.drop_eq_getElem_cons hil, List.map_cons, join2, parT_eq hxk] at he
    have hlen := htf
    rw [he] at hlen
    simp only [List.length_append, List.length_cons, List.length_nil] at hlen
    have hz' : M.stc 6 [.int .i64 0, .str [], .int .u32 0, .bool false, nilSlice, .int .i64 0] 0 l[i].av = .ok l[i].cs := stc_av6 ..
    obtain ⟨H2, hs2, hK⟩ := sepP (m := m) [44, 32] hs i (by omega)
    obtain ⟨H3, e3, hs3⟩ := Res.st hs2 (put4 (m := m) x.str [32] (if l[i].num = 1 then [42] else []) l[i].str hs2.b (by simp only [List.length_append, List.length_cons, List.length_nil]; omega))
    have hrep := repeat_star (m := m) hpp H2.start
    have hL2 : Locs.find (Locs.put (Locs.put L 6 [.int .i64 0, .str [], .int .u32 0, .bool false, nilSlice, .int .i64 0]) 6 l[i].cs) 3 = some n.cs := by rw [locs_put_ne (by decide), locs_put_ne (by decide)]; exact hL
    have hconv : ∀ P, M.conv P 22 3 (.int .u32) (.int .i64) (.int .u32 l[i].num) = .ok (.int .i64 (IntKind.wrap .i64 l[i].num)) := fun P => rfl
    have w1 := wrap_i64 (x := (i : Int) + 1) (by omega) (by omega)
    have hlt : decide ((i : Int) < l.length) = true := decide_eq_true (by omega)
    -- behind the parameter
    have fin : ∃ H4, St p (PB lo p) H H4 (t1 ++ (if i = 0 then [] else [44, 32]) ++ (x.str ++ ([32] ++ ((if l[i].num = 1 then [42] else []) ++ l[i].str))) ++ (if l[i].flag then [91, 93] else [])) ∧ ∀ K : Heap → Out Ans, condEv (.bool l[i].flag) ((W m 31 [.ref p 0, .isl 1 [.str [91, 93]]] H3).bind fun r => K r.2) (K H3) = K H4 := by
      cases hf : l[i].flag with
      | false => exact ⟨H3, by simpa using hs3, fun K => rfl⟩
      | true =>
        rw [hf] at hlen
        simp only [if_true, List.length_cons, List.length_nil] at hlen
        obtain ⟨H4, e4, hs4⟩ := Res.st hs3 (put1 (m := m) [91, 93] hs3.b (by simp only [List.length_append, List.length_cons, List.length_nil]; omega))
        exact ⟨H4, hs4, fun K => by rw [cond_tt, e4]; rfl⟩
    obtain ⟨H4, hs4, hF⟩ := fin
    refine Res.step (s' := ([.ref p 0, .int .i64 kk, kv b l, .int .i64 l.length, .int .i64 ((i + 1 : Nat) : Int)], Locs.put (Locs.put L 6 [.int .i64 0, .str [], .int .u32 0, .bool false, nilSlice, .int .i64 0]) 6 l[i].cs, H4)) (fun k => ?_) ?_
    · have hF := hF fun H4 => k ([.ref p 0, .int .i64 kk, kv b l, .int .i64 l.length, .int .i64 ((i : Int) + 1)], Locs.put (Locs.put L 6 [.int .i64 0, .str [], .int .u32 0, .bool false, nilSlice, .int .i64 0]) 6 l[i].cs, H4)
      have hK := hK fun H2 => (W m 56 [.str [42], .int .i64 (IntKind.wrap .i64 l[i].num)] H2.start).bind fun r29 => if r29.2.n = H2.n ∧ r29.2.low = H2.n then
        (M.fill (fun i => some (i * 1, 1)) [.str [], .str [], .str [], .str []] [(0, .str x.str), (1, .str [32]), (2, r29.1), (3, .str l[i].str)]).bind fun cs32 => (W m 31 [.ref p 0, .isl 1 (chunks false 1 4 cs32)] H2).bind fun r33 =>
        condEv (.bool l[i].flag) ((W m 31 [.ref p 0, .isl 1 [.str [91, 93]]] r33.2).bind fun r36 => k ([.ref p 0, .int .i64 kk, kv b l, .int .i64 l.length, .int .i64 ((i : Int) + 1)], Locs.put (Locs.put L 6 [.int .i64 0, .str [], .int .u32 0, .bool false, nilSlice, .int .i64 0]) 6 l[i].cs, r36.2))
          (k ([.ref p 0, .int .i64 kk, kv b l, .int .i64 l.length, .int .i64 ((i : Int) + 1)], Locs.put (Locs.put L 6 [.int .i64 0, .str [], .int .u32 0, .bool false, nilSlice, .int .i64 0]) 6 l[i].cs, r33.2)) else .no
      have hright : (fun H2 : Heap => (W m 56 [.str [42], .int .i64 (IntKind.wrap .i64 l[i].num)] H2.start).bind fun r29 => if r29.2.n = H2.n ∧ r29.2.low = H2.n then
        (M.fill (fun i => some (i * 1, 1)) [.str [], .str [], .str [], .str []] [(0, .str x.str), (1, .str [32]), (2, r29.1), (3, .str l[i].str)]).bind fun cs32 => (W m 31 [.ref p 0, .isl 1 (chunks false 1 4 cs32)] H2).bind fun r33 =>
        condEv (.bool l[i].flag) ((W m 31 [.ref p 0, .isl 1 [.str [91, 93]]] r33.2).bind fun r36 => k ([.ref p 0, .int .i64 kk, kv b l, .int .i64 l.length, .int .i64 ((i : Int) + 1)], Locs.put (Locs.put L 6 [.int .i64 0, .str [], .int .u32 0, .bool false, nilSlice, .int .i64 0]) 6 l[i].cs, r36.2))
          (k ([.ref p 0, .int .i64 kk, kv b l, .int .i64 l.length, .int .i64 ((i : Int) + 1)], Locs.put (Locs.put L 6 [.int .i64 0, .str [], .int .u32 0, .bool false, nilSlice, .int .i64 0]) 6 l[i].cs, r33.2)) else .no) H2 = k ([.ref p 0, .int .i64 kk, kv b l, .int .i64 l.length, .int .i64 ((i : Int) + 1)], Locs.put (Locs.put L 6 [.int .i64 0, .str [], .int .u32 0, .bool false, nilSlice, .int .i64 0]) 6 l[i].cs, H4) := by
        simp -implicitDefEqProofs only [hrep, bind_ok, start_n, start_low, and_self, if_true, fill4, chunks4, e3]
        exact hF
      have hK := hK.trans hright
      unfold g35_l4 jn
      by_cases h0 : i = 0
      · rw [if_pos h0] at hK
        have hg : decide ((i : Int) > 0) = false := decide_eq_false (by omega)
        simp -implicitDefEqProofs only [List.getD_cons_zero, List.getD_cons_succ, bin_lss, bind_ok, hlt, cond_tt, index_kvn hil, load_cs, locs_put, onO_some, hz', bin_gtr, hg, cond_ff, ldc_cs, ldc_cs1, ldc_cs2, ldc_cs3, ldc_cs4, hxk, index_kv0, fa_iptr, load_cs1, hconv, bin_add, w1, Int.natCast_add, Int.natCast_one]
        exact hK
      · rw [if_neg h0] at hK
        have hg : decide ((i : Int) > 0) = true := decide_eq_true (by omega)
        simp -implicitDefEqProofs only [List.getD_cons_zero, List.getD_cons_succ, bin_lss, bind_ok, hlt, cond_tt, index_kvn hil, load_cs, locs_put, onO_some, hz', bin_gtr, hg, ldc_cs, ldc_cs1, ldc_cs2, ldc_cs3, ldc_cs4, hxk, index_kv0, fa_iptr, load_cs1, hconv, bin_add, w1, Int.natCast_add, Int.natCast_one]
        exact hK
    · refine ih (i + 1) H4 _ _ (by omega) hL2 hs4 ?_
      rw [if_neg (Nat.succ_ne_zero i), he]
      simp only [List.append_assoc]
theorem s_fun {n x z : Nd} {r : List Nd} (hn : n.kids.length < 1099511627776) (hk : n.kids = x :: (r ++ [z])) (hx : ∀ v ∈ r, PP v) (hzl : z.kids.length < 1099511627776) (hzx : ∀ y ∈ z.kids, LX m y) (h : Buf lo H p t)
    (hc : t.length + (x.str ++ 32 :: (n.str ++ 40 :: (join2 [] (r.map parT) ++ (41 :: 32 :: 123 :: 10 :: ((z.kids.map ln).flatten ++ [125]))))).length ≤ 1099511627776) :
    Res p (PB lo p) H (t ++ (x.str ++ 32 :: (n.str ++ 40 :: (join2 [] (r.map parT) ++ (41 :: 32 :: 123 :: 10 :: ((z.kids.map ln).flatten ++ [125])))))) (W m 35 [.ref p 0, n.av] H) := by
  rw [n.av_eq]
  refine Res.call (fun r hr => c35 rfl _ n.kind n.str n.num n.flag _ n.pos H hr) ?_
  unfold g35
  simp only [fold_cs, fold_av]
  have hlen : n.kids.length = r.length + 2 := by rw [hk]; simp
  have w1 : IntKind.wrap .i64 ((n.kids.length : Int) - 1) = ((r.length + 1 : Nat) : Int) := by rw [wrap_i64 (by omega) (by omega)]; omega
  have i0 : M.indexSl 6 (kv n.nil n.kids) (.int .i64 0) = .ok (.iptr x.cs) := by rw [hk, index_kv0]
  obtain ⟨b', hb⟩ := slice_kv (b := n.nil) (l := n.kids) (i := 1) (j := r.length + 1) (by omega) (by omega)
  have hsl : (n.kids.take (r.length + 1)).drop 1 = r := by rw [hk]; simp
  rw [hsl] at hb
  have hb : M.sliceSl 6 (kv n.nil n.kids) (some (.int .i64 1)) (some (.int .i64 ((r.length + 1 : Nat) : Int))) = .ok (kv b' r) := hb
  simp only [List.length_append, List.length_cons, List.length_nil] at hc
  simp -implicitDefEqProofs only [len_kv, bind_ok, bin_sub, w1, i0, fa_iptr, load_cs1, fill4, chunks4]
  refine Res.bind (St.init (buf_like lo p) h) (put4 x.str [32] n.str [40] h.start (by simp only [List.length_cons, List.length_nil]; omega)) fun H1 s1 => ?_
  simp -implicitDefEqProofs only [hb, len_kv, bind_ok]
  have := pars_loop (m := m) (n := n) (z := z) (l := r) (by omega) hx b' (r.length + 1) (by rw [hk]; simp) hzl hzx h (t ++ (x.str ++ 32 :: (n.str ++ 40 :: (join2 [] (r.map parT) ++ (41 :: 32 :: 123 :: 10 :: ((z.kids.map ln).flatten ++ [125])))))) (by simp only [List.length_append, List.length_cons, List.length_nil]; omega) r.length 0 H1 _ [(3, n.cs)] (by omega) rfl s1 (by simp)
  exact this
/-- Parts with a mark between. -/
def joinW (sep : List UInt8) : Bool → List (List UInt8) → List UInt8
  | _, [] => []
  | f, t :: r => (if f then [] else sep) ++ (t ++ joinW sep false r)
theorem fors_loop {n d : Nd} {l : List Nd} (hl : l.length < 1099511627776) (hx : ∀ x ∈ l, x.kind = 56 ∨ (x.kind ≠ 56 ∧ PE m x)) (b : Bool) (hd : n.kids[3]? = some d) (hdx : LX m d) (h : Buf lo H p t) (tf : List UInt8) (htf : tf.length ≤ 1099511627776) :
    ∀ k i H1 t1 L, i + k = l.length → Locs.find L 3 = some n.cs → St p (PB lo p) H H1 t1 → tf = t1 ++ (joinW [59, 32] (i == 0) ((l.drop i).map optT) ++ (41 :: 10 :: ln d)) →
      Res p (PB lo p) H tf (loopW (g32_l3 (W m) loopW H) ([.ref p 0, kv b l, .int .i64 l.length, .int .i64 (i : Nat)], L, H1)) := by
  intro k
  induction k with
  | zero =>
    intro i H1 t1 L hi hL hs he
    rw [List.drop_eq_nil_of_le (by omega)] at he
    simp only [List.map_nil, joinW, List.nil_append] at he
    have hlen := htf
    rw [he] at hlen
    simp only [List.length_append, List.length_cons, List.length_nil] at hlen
    obtain ⟨H2, e2, hs2⟩ := Res.st hs (put1 (m := m) [41, 10] hs.b (by simp; omega))
    obtain ⟨H3, e3, hs3⟩ := Res.st hs2 (hdx lo p H2 _ hs2.b (by simp only [List.length_append, List.length_cons, List.length_nil]; omega))
    refine Res.done (x := .ok (gc (.tup []) H H3)) (fun k => ?_) ?_
    · have hzi : M.indexSl 6 (kv n.nil n.kids) (.int .i64 3) = .ok (.iptr d.cs) := index_kv (by omega) (by simpa using hd)
      unfold g32_l3
      simp -implicitDefEqProofs only [List.getD_cons_zero, List.getD_cons_succ, bin_lss, bind_ok, decide_eq_false (show ¬ ((i : Int) < l.length) by omega), cond_ff, e2, hL, onO_some, ldc_cs4, hzi, load_cs, e3]
    · exact Res.fin' (buf_like lo p) h hs3 (by rw [he]; simp)
  | succ k ih =>
    intro i H1 t1 L hi hL hs he
    have hil : i < l.length := by omega
    rw [List.drop_eq_getElem_cons hil, List.map_cons, joinW] at he
    have hsep : (if (i == 0) = true then ([] : List UInt8) else [59, 32]) = (if i = 0 then [] else [59, 32]) := by by_cases h0 : i = 0 <;> simp [h0]
    rw [hsep] at he
    have hlen := htf
    rw [he] at hlen
    simp only [List.length_append, List.length_cons, List.length_nil] at hlen
    have hz' : M.stc 6 [.int .i64 0, .str [], .int .u32 0, .bool false, nilSlice, .int .i64 0] 0 l[i].av = .ok l[i].cs := stc_av6 ..
    obtain ⟨H2, hs2, hK⟩ := sepP (m := m) [59, 32] hs i (by omega)
    have hL2 : Locs.find (Locs.put (Locs.put L 5 [.int .i64 0, .str [], .int .u32 0, .bool false, nilSlice, .int .i64 0]) 5 l[i].cs) 3 = some n.cs := by rw [locs_put_ne (by decide), locs_put_ne (by decide)]; exact hL
    have w1 := wrap_i64 (x := (i : Int) + 1) (by omega) (by omega)
    have hlt : decide ((i : Int) < l.length) = true := decide_eq_true (by omega)
    have fin : ∃ H4, St p (PB lo p) H H4 (t1 ++ (if i = 0 then [] else [59, 32]) ++ optT l[i]) ∧ ∀ K : Heap → Out Ans, condEv (.bool (!(l[i].kind == 56))) ((W m 54 [.ref p 0, l[i].av, .int .i64 0] H2).bind fun r => K r.2) (K H2) = K H4 := by
      rcases hx l[i] (List.getElem_mem hil) with h56 | ⟨h56, hpe⟩
      · exact ⟨H2, by unfold optT; rw [if_pos h56]; simpa using hs2, fun K => by rw [h56]; rfl⟩
      · have ho : optT l[i] = tx l[i] := by unfold optT; rw [if_neg h56]
        rw [ho] at hlen ⊢
        obtain ⟨H4, e4, hs4⟩ := Res.st hs2 (at0 (m := m) hpe hs2.b (by simp only [List.length_append, List.length_cons, List.length_nil]; omega))
        exact ⟨H4, hs4, fun K => by rw [beq_eq_false_iff_ne.2 h56, Bool.not_false, cond_tt, e4]; rfl⟩
    obtain ⟨H4, hs4, hF⟩ := fin
    refine Res.step (s' := ([.ref p 0, kv b l, .int .i64 l.length, .int .i64 ((i + 1 : Nat) : Int)], Locs.put (Locs.put L 5 [.int .i64 0, .str [], .int .u32 0, .bool false, nilSlice, .int .i64 0]) 5 l[i].cs, H4)) (fun k => ?_) ?_
    · have hF := hF fun H4 => k ([.ref p 0, kv b l, .int .i64 l.length, .int .i64 ((i : Int) + 1)], Locs.put (Locs.put L 5 [.int .i64 0, .str [], .int .u32 0, .bool false, nilSlice, .int .i64 0]) 5 l[i].cs, H4)
      have hK := hK fun H2 => condEv (.bool (!(l[i].kind == 56))) ((W m 54 [.ref p 0, l[i].av, .int .i64 0] H2).bind fun r => k ([.ref p 0, kv b l, .int .i64 l.length, .int .i64 ((i : Int) + 1)], Locs.put (Locs.put L 5 [.int .i64 0, .str [], .int .u32 0, .bool false, nilSlice, .int .i64 0]) 5 l[i].cs, r.2))
        (k ([.ref p 0, kv b l, .int .i64 l.length, .int .i64 ((i : Int) + 1)], Locs.put (Locs.put L 5 [.int .i64 0, .str [], .int .u32 0, .bool false, nilSlice, .int .i64 0]) 5 l[i].cs, H2))
      have hK := hK.trans hF
      unfold g32_l3 jn
      by_cases h0 : i = 0
      · rw [if_pos h0] at hK
        have hg : decide ((i : Int) > 0) = false := decide_eq_false (by omega)
        simp -implicitDefEqProofs only [List.getD_cons_zero, List.getD_cons_succ, bin_lss, bind_ok, hlt, cond_tt, index_kvn hil, load_cs, locs_put, onO_some, hz', bin_gtr, hg, cond_ff, ldc_cs, ldc_cs0, bin_neq, bne, bin_add, w1, Int.natCast_add, Int.natCast_one]
        exact hK
      · rw [if_neg h0] at hK
        have hg : decide ((i : Int) > 0) = true := decide_eq_true (by omega)
        simp -implicitDefEqProofs only [List.getD_cons_zero, List.getD_cons_succ, bin_lss, bind_ok, hlt, cond_tt, index_kvn hil, load_cs, locs_put, onO_some, hz', bin_gtr, hg, ldc_cs, ldc_cs0, bin_neq, bne, bin_add, w1, Int.natCast_add, Int.natCast_one]
        exact hK
    · refine ih (i + 1) H4 _ _ (by omega) hL2 hs4 ?_
      rw [he, show (i + 1 == 0) = false from rfl]
      simp only [List.append_assoc]
theorem s_fors {n a b c d : Nd} (hk : n.kids = [a, b, c, d]) (ha : a.kind = 56 ∨ (a.kind ≠ 56 ∧ PE m a)) (hb : b.kind = 56 ∨ (b.kind ≠ 56 ∧ PE m b)) (hc' : c.kind = 56 ∨ (c.kind ≠ 56 ∧ PE m c)) (hd : LX m d) (h : Buf lo H p t)
    (hc : t.length + ([102, 111, 114, 32, 40] ++ (optT a ++ 59 :: 32 :: (optT b ++ 59 :: 32 :: (optT c ++ 41 :: 10 :: ln d)))).length ≤ 1099511627776) :
    Res p (PB lo p) H (t ++ ([102, 111, 114, 32, 40] ++ (optT a ++ 59 :: 32 :: (optT b ++ 59 :: 32 :: (optT c ++ 41 :: 10 :: ln d))))) (W m 32 [.ref p 0, n.av] H) := by
  rw [n.av_eq]
  refine Res.call (fun r hr => c32 rfl _ n.kind n.str n.num n.flag _ n.pos H hr) ?_
  unfold g32
  simp only [fold_cs, fold_av]
  obtain ⟨b', hb'⟩ := slice_kv_to (b := n.nil) (l := n.kids) (j := 3) (by rw [hk]; simp)
  have hb' : M.sliceSl 6 (kv n.nil n.kids) none (some (.int .i64 3)) = .ok (kv b' [a, b, c]) := by rw [hk] at hb' ⊢; exact hb'
  simp only [List.length_append, List.length_cons, List.length_nil] at hc
  refine Res.bind (St.init (buf_like lo p) h) (put1 [102, 111, 114, 32, 40] h.start (by simp only [List.length_cons, List.length_nil]; omega)) fun H1 s1 => ?_
  simp -implicitDefEqProofs only [hb', len_kv, bind_ok]
  have := fors_loop (m := m) (n := n) (d := d) (l := [a, b, c]) (by simp) (by
    intro x hx
    simp only [List.mem_cons, List.not_mem_nil, or_false] at hx
    rcases hx with rfl | rfl | rfl
    · exact ha
    · exact hb
    · exact hc') b' (by rw [hk]; rfl) hd h (t ++ ([102, 111, 114, 32, 40] ++ (optT a ++ 59 :: 32 :: (optT b ++ 59 :: 32 :: (optT c ++ 41 :: 10 :: ln d))))) (by simp only [List.length_append, List.length_cons, List.length_nil]; omega) 3 0 H1 _ [(3, n.cs)] (by rfl) rfl s1 (by simp [joinW])
  exact this
end
end Go.Proofs.YtnhblghplohonaaGreatDoor.Ab
