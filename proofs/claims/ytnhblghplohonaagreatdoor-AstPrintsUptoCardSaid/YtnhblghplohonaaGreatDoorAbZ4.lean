/- The law's own tree; the length of texts; AstPrints. -/
import Derived.Test.YtnhblghplohonaaGreatDoorAbZ3
set_option linter.unusedSimpArgs false
set_option linter.unusedVariables false
namespace Go.Proofs.YtnhblghplohonaaGreatDoor.Ab
open Go
variable {m : Int}
def own1 : Nd := .mk 1 [] 1 false true [] 0
def own2 : Nd := .mk 16 [105, 110, 116] 0 false true [] 0
def own3 : Nd := .mk 43 [120] 0 false false [own1] 0
def own4 : Nd := .mk 42 [] 0 false false [own2, own3] 0
def ownN : Nd := .mk 40 [] 0 false false [own4] 0
theorem s_own (H : Heap) : W m 17 [] H = .ok (ownN.av, H) := by
  refine c17 rfl H ?_
  unfold g17
  simp only []
  congr 1
  refine gcz_some ?_ ?_
  · simp [Heap.alloc]
  · have hl : ∀ (n : Nat) (l : List AV), (cleanL n l = false) → clean n (.agg l) = false := fun n l h => by simpa [clean] using h
    have c1 : ∀ b, (((H.start.alloc (.cells 25 [.int .i64 1, .str [], .int .u32 1, .bool false, nilSlice, .int .i64 0])).alloc (.cells 25 [.int .i64 16, .str [105, 110, 116], .int .u32 0, .bool false, nilSlice, .int .i64 0, .int .i64 43, .str [120], .int .u32 0, .bool false, .sl H.n 0 1 6, .int .i64 0])).alloc (.cells 25 [.int .i64 42, .str [], .int .u32 0, .bool false, .sl (H.n + 1) 0 2 6, .int .i64 0])).cells b =
        if b = H.n + 2 then some [.int .i64 42, .str [], .int .u32 0, .bool false, .sl (H.n + 1) 0 2 6, .int .i64 0] else if b = H.n + 1 then some [.int .i64 16, .str [105, 110, 116], .int .u32 0, .bool false, nilSlice, .int .i64 0, .int .i64 43, .str [120], .int .u32 0, .bool false, .sl H.n 0 1 6, .int .i64 0] else if b = H.n then some [.int .i64 1, .str [], .int .u32 1, .bool false, nilSlice, .int .i64 0] else H.cells b := by
      intro b
      simp only [Heap.cells, Heap.get_alloc]
      simp only [Heap.alloc, start_n]
      by_cases h1 : b = H.n + 2
      · simp [h1]
      · by_cases h2 : b = H.n + 1
        · simp [h2]
        · by_cases h3 : b = H.n
          · have g1 : H.n ≠ H.n + 1 + 1 := by omega
            simp [h3, g1]
          · simp [h1, h2, h3]
    have e0 : (H.start.alloc (.cells 25 [.int .i64 1, .str [], .int .u32 1, .bool false, nilSlice, .int .i64 0])).n = H.n + 1 := rfl
    have e1 : ((H.start.alloc (.cells 25 [.int .i64 1, .str [], .int .u32 1, .bool false, nilSlice, .int .i64 0])).alloc (.cells 25 [.int .i64 16, .str [105, 110, 116], .int .u32 0, .bool false, nilSlice, .int .i64 0, .int .i64 43, .str [120], .int .u32 0, .bool false, .sl H.n 0 1 6, .int .i64 0])).n = H.n + 2 := rfl
    simp only [start_n, e0, e1]
    have n1 : ¬ H.n + 1 < H.n := by omega
    have n2 : ¬ H.n + 2 < H.n := by omega
    have d1 : H.n + 1 ≠ H.n + 2 := by omega
    have d2 : H.n ≠ H.n + 2 := by omega
    have d3 : H.n ≠ H.n + 1 := by omega
    have k0 : ∀ k, fz ((((H.start.alloc (.cells 25 [.int .i64 1, .str [], .int .u32 1, .bool false, nilSlice, .int .i64 0])).alloc (.cells 25 [.int .i64 16, .str [105, 110, 116], .int .u32 0, .bool false, nilSlice, .int .i64 0, .int .i64 43, .str [120], .int .u32 0, .bool false, .sl H.n 0 1 6, .int .i64 0])).alloc (.cells 25 [.int .i64 42, .str [], .int .u32 0, .bool false, .sl (H.n + 1) 0 2 6, .int .i64 0])).cells) H.n (k + 2) (.sl H.n 0 1 6) = some (.isl 6 [own1.av]) := by
      intro k
      rw [fz_sl (Nat.le_refl _) ((c1 H.n).trans (by rw [if_neg d2, if_neg d3, if_pos rfl])) (by simp)]
      rw [optAll_id (fun x hx => fz_clean (by simp at hx; rcases hx with rfl | rfl | rfl | rfl | rfl | rfl <;> simp [nilSlice, clean, cleanL]))]
      rfl
    have k1 : ∀ k, fz ((((H.start.alloc (.cells 25 [.int .i64 1, .str [], .int .u32 1, .bool false, nilSlice, .int .i64 0])).alloc (.cells 25 [.int .i64 16, .str [105, 110, 116], .int .u32 0, .bool false, nilSlice, .int .i64 0, .int .i64 43, .str [120], .int .u32 0, .bool false, .sl H.n 0 1 6, .int .i64 0])).alloc (.cells 25 [.int .i64 42, .str [], .int .u32 0, .bool false, .sl (H.n + 1) 0 2 6, .int .i64 0])).cells) H.n (k + 3) (.sl (H.n + 1) 0 2 6) = some (.isl 6 [own2.av, own3.av]) := by
      intro k
      rw [fz_sl (Nat.le_succ _) ((c1 (H.n + 1)).trans (by rw [if_neg d1, if_pos rfl])) (by simp)]
      simp only [List.drop_zero, List.take, optAll, k0, Nat.reduceMul]
      simp only [fz_clean (k := k + 1) (show clean H.n (.int .i64 16) = true from rfl), fz_clean (k := k + 1) (show clean H.n (.str [105, 110, 116]) = true from rfl), fz_clean (k := k + 1) (show clean H.n (.int .u32 0) = true from rfl), fz_clean (k := k + 1) (show clean H.n (.bool false) = true from rfl), fz_clean (k := k + 1) (show clean H.n nilSlice = true from by simp [nilSlice, clean, cleanL]), fz_clean (k := k + 1) (show clean H.n (.int .i64 0) = true from rfl), fz_clean (k := k + 1) (show clean H.n (.int .i64 43) = true from rfl), fz_clean (k := k + 1) (show clean H.n (.str [120]) = true from rfl)]
      rfl
    have k2 : ∀ k, fz ((((H.start.alloc (.cells 25 [.int .i64 1, .str [], .int .u32 1, .bool false, nilSlice, .int .i64 0])).alloc (.cells 25 [.int .i64 16, .str [105, 110, 116], .int .u32 0, .bool false, nilSlice, .int .i64 0, .int .i64 43, .str [120], .int .u32 0, .bool false, .sl H.n 0 1 6, .int .i64 0])).alloc (.cells 25 [.int .i64 42, .str [], .int .u32 0, .bool false, .sl (H.n + 1) 0 2 6, .int .i64 0])).cells) H.n (k + 4) (.sl (H.n + 2) 0 1 6) = some (.isl 6 [own4.av]) := by
      intro k
      rw [fz_sl (by omega) ((c1 (H.n + 2)).trans (if_pos rfl)) (by simp)]
      simp only [List.drop_zero, List.take, optAll, k1, Nat.reduceMul]
      simp only [fz_clean (k := k + 2) (show clean H.n (.int .i64 42) = true from rfl), fz_clean (k := k + 2) (show clean H.n (.str []) = true from rfl), fz_clean (k := k + 2) (show clean H.n (.int .u32 0) = true from rfl), fz_clean (k := k + 2) (show clean H.n (.bool false) = true from rfl), fz_clean (k := k + 2) (show clean H.n (.int .i64 0) = true from rfl)]
      rfl
    rw [fz_agg (k := 31) (hl _ _ (by simp [cleanL, clean]))]
    simp only [optAll, k2 27]
    simp only [fz_clean (k := 30) (show clean H.n (.int .i64 40) = true from rfl), fz_clean (k := 30) (show clean H.n (.str []) = true from rfl), fz_clean (k := 30) (show clean H.n (.int .u32 0) = true from rfl), fz_clean (k := 30) (show clean H.n (.bool false) = true from rfl), fz_clean (k := 30) (show clean H.n (.int .i64 0) = true from rfl)]
    rfl
theorem own_text : prOut ownN = ([105, 110, 116, 32, 120, 32, 61, 32, 49, 59] ++ [10], 0) := by
  have h1 : checkP ownN = true := by decide +kernel
  have h2 : tx own1 = [49] := by rw [tx_1 rfl]; show Lib.decDigits 1 ++ _ = _; rw [decDigits_small (by decide)]; rfl
  have h3 : prText ownN = [105, 110, 116, 32, 120, 32, 61, 32, 49, 59] ++ [10] := by
    show (List.map ln [own4]).flatten = _
    rw [List.map_cons, List.map_nil, ln_42 (n := own4) (x := own2) (r := [own3]) rfl rfl]
    simp only [List.map_cons, List.map_nil, join2, varT]
    rw [show own3.flag = false from rfl, if_neg (by decide), show own3.kids = [own1] from rfl]
    simp only [iniT]
    rw [show own1.kind = 1 from rfl, if_neg (by decide : ¬ (1 : Int) = 44), h2]
    rfl
  unfold prOut
  rw [h3, if_pos h1]
  rfl
theorem own_size : sizeP ownN = 5 := by decide +kernel
theorem s_awake (H : Heap) : W m 7 [] H = .ok (.bool true, H) := by
  have a1 := fun H => s_own (m := m) H
  have a2 := fun H => s_print (m := m) (n := ownN) (by decide +kernel) (by decide +kernel) (fun _ => by
    have := own_text
    unfold prOut at this
    rw [if_pos (by decide +kernel)] at this
    by_cases h : 1048576 < (prText ownN).length
    · rw [if_pos h] at this; cases this
    · omega) H
  have a3 := fun H => s_size (m := m) (n := ownN) (by decide +kernel) H
  rw [own_text] at a2
  rw [own_size] at a3
  refine c7 rfl H ?_
  unfold g7
  simp -implicitDefEqProofs [a1, a2, a3, M.extract, M.ofOpt]

/- ### How long texts are -/
theorem szs_len {l : List Nd} (f : Nd → List UInt8) (h : ∀ x ∈ l, (f x).length ≤ 64 * x.sz) : (l.map f).flatten.length ≤ 64 * Nd.szs l := by
  induction l with
  | nil => simp
  | cons x l ih =>
    rw [List.map_cons, List.flatten_cons, List.length_append, Nd.szs]
    have := h x (List.mem_cons_self ..)
    have := ih fun y hy => h y (List.mem_cons_of_mem _ hy)
    omega
theorem join2_len' {l : List Nd} (f : Nd → List UInt8) (h : ∀ x ∈ l, (f x).length + 4 ≤ 64 * x.sz) : ∀ sep : List UInt8, sep.length ≤ 2 → (join2 sep (l.map f)).length ≤ 64 * Nd.szs l := by
  induction l with
  | nil => intro sep _; simp [join2]
  | cons x l ih =>
    intro sep hs
    rw [List.map_cons, join2_len, Nd.szs]
    have := h x (List.mem_cons_self ..)
    have := ih (fun y hy => h y (List.mem_cons_of_mem _ hy)) [44, 32] (by decide)
    omega
theorem par_len' (n : Nd) (k : Int) (t : List UInt8) : (par n k t).length ≤ t.length + 2 := by
  unfold par; split <;> simp
theorem szs_1 (x : Nd) : Nd.szs [x] = x.sz := rfl
theorem szs_2 (x y : Nd) : Nd.szs [x, y] = x.sz + y.sz := rfl
theorem szs_3 (x y z : Nd) : Nd.szs [x, y, z] = x.sz + (y.sz + z.sz) := rfl
theorem szs_4 (x y z u : Nd) : Nd.szs [x, y, z, u] = x.sz + (y.sz + (z.sz + u.sz)) := rfl
theorem tx_len : ∀ n : Nd, okE n = true → numB n = true → (tx n).length + 4 ≤ 64 * n.sz := by
  refine Nd.ind fun n ih ho hnum => ?_
  have hnp := numB_parts hnum
  have hpo := okE_parts ho
  have hsz := n.sz_eq
  have kid : ∀ x ∈ n.kids, okE x = true → (tx x).length + 4 ≤ 64 * x.sz := fun x hx hox => ih x hx hox (hnp.2.2 x hx)
  rcases (by omega : n.kind = 1 ∨ n.kind = 2 ∨ n.kind = 3 ∨ n.kind = 4 ∨ n.kind = 5 ∨ n.kind = 6 ∨ n.kind = 7 ∨ n.kind = 8 ∨ n.kind = 9 ∨ (n.kind = 10 ∨ n.kind = 11) ∨ n.kind = 12 ∨ n.kind = 13 ∨ n.kind = 14 ∨ n.kind = 15) with hk | hk | hk | hk | hk | hk | hk | hk | hk | hk | hk | hk | hk | hk
  · have hl := decDigits_length 10 n.num.toNat (by omega)
    rw [tx_1 hk, List.length_append]
    have : (if n.flag then ([117] : List UInt8) else []).length ≤ 1 := by split <;> simp
    omega
  · rw [tx_2 hk]; simp only [List.length_cons, List.length_nil]; omega
  · rw [tx_3 hk]; have := quote_len n.str; omega
  · rw [tx_4 hk]; omega
  · obtain ⟨x, y, hl, hx, hy⟩ := okE_E2 ho (.inl hk)
    have := kid x (by rw [hl]; simp) hx; have := kid y (by rw [hl]; simp) hy
    have := par_len' x 13 (tx x); have := par_len' y 0 (tx y)
    rw [hl, szs_2] at hsz
    rw [tx_5 hk hl]; simp only [List.length_cons, List.length_nil, List.length_append]; omega
  · obtain ⟨x, hl, hx⟩ := okE_E1 ho (.inl hk)
    have := kid x (by rw [hl]; simp) hx
    have := par_len' x 13 (tx x)
    rw [hl, szs_1] at hsz
    rw [tx_6 hk hl]; simp only [List.length_cons, List.length_nil, List.length_append]; omega
  · obtain ⟨x, hl, hx⟩ := okE_E1 ho (.inr (.inl hk))
    have := kid x (by rw [hl]; simp) hx
    have := par_len' x 13 (tx x)
    rw [hl, szs_1] at hsz
    rw [tx_7 hk hl]; simp only [List.length_cons, List.length_nil, List.length_append]; omega
  · have hj := join2_len' (l := n.kids) tx (fun x hx => kid x hx (okE_call ho hk x hx)) [] (by decide)
    rw [tx_8 hk]; simp only [List.length_cons, List.length_nil, List.length_append]; omega
  · obtain ⟨x, hl, hx⟩ := okE_E1 ho (.inr (.inr hk))
    have := kid x (by rw [hl]; simp) hx
    have := par_len' x 12 (tx x)
    rw [hl, szs_1] at hsz
    rw [tx_9 hk hl]
    have : (if x.kind = 9 ∧ x.str = n.str then ([32] : List UInt8) else []).length ≤ 1 := by split <;> simp
    simp only [List.length_cons, List.length_nil, List.length_append]; omega
  · obtain ⟨x, y, hl, hx, hy⟩ := okE_E2 ho (.inr hk)
    have := kid x (by rw [hl]; simp) hx; have := kid y (by rw [hl]; simp) hy
    have := par_len' x (opL n.str) (tx x); have := par_len' y (opL n.str + 1) (tx y)
    rw [hl, szs_2] at hsz
    rw [tx_10 hk hl]; simp only [List.length_cons, List.length_nil, List.length_append]; omega
  · obtain ⟨x, y, z, hl, hx, hy, hz⟩ := okE_E3 ho hk
    have := kid x (by rw [hl]; simp) hx; have := kid y (by rw [hl]; simp) hy; have := kid z (by rw [hl]; simp) hz
    have := par_len' x 2 (tx x); have := par_len' y 0 (tx y); have := par_len' z 1 (tx z)
    rw [hl, szs_3] at hsz
    rw [tx_12 hk hl]; simp only [List.length_cons, List.length_nil, List.length_append]; omega
  · obtain ⟨x, y, hl, hx, hy⟩ := okE_A ho hk
    have := kid x (by rw [hl]; simp) hx; have := kid y (by rw [hl]; simp) hy
    have := par_len' x 13 (tx x); have := par_len' y 0 (tx y)
    rw [hl, szs_2] at hsz
    rw [tx_13 hk hl]; simp only [List.length_cons, List.length_nil, List.length_append]; omega
  · obtain ⟨x, y, hl, hx, hy⟩ := okE_C ho hk
    have := kid y (by rw [hl]; simp) hy
    have := par_len' y 12 (tx y); have := str_sz x
    rw [hl, szs_2] at hsz
    rw [tx_14 hk hl]; simp only [List.length_cons, List.length_nil, List.length_append]; omega
  · obtain ⟨x, hl, hx⟩ := okE_S ho hk
    have := str_sz x
    have hsx : x.sz ≤ n.sz := by rw [hl, szs_1] at hsz; omega
    rw [hl, szs_1] at hsz
    rw [tx_15 hk hl]
    by_cases h16 : x.kind = 16
    · rw [if_pos h16]; simp only [List.length_cons, List.length_nil, List.length_append]; omega
    · rw [if_neg h16]
      have := kid x (by rw [hl]; simp) (hx.resolve_left h16)
      have := par_len' x 12 (tx x)
      split <;> simp only [List.length_cons, List.length_nil, List.length_append] <;> omega
theorem optT_len {x : Nd} (h : x.kind = 56 ∨ okE x = true) (hn : numB x = true) : (optT x).length ≤ 64 * x.sz := by
  unfold optT
  split
  · simp
  · next h56 => have := tx_len x (h.resolve_left h56) hn; omega
theorem varT_len {v : Nd} (h : mayP v = true) (hk : v.kind = 43) (hn : numB v = true) : (varT v).length + 4 ≤ 64 * v.sz := by
  obtain ⟨h1, h2⟩ := may_decl h (by omega)
  have hv : varP v = true := by unfold declsP at h1; simp [hk] at h1; exact h1.2
  have hnp := numB_parts hn
  have hsz := v.sz_eq
  have ne44 : ∀ x : Nd, isE x = true → x.kind ≠ 44 := fun x he => by unfold isE at he; simp at he; omega
  have pe : ∀ x ∈ v.kids, isE x = true → (tx x).length + 4 ≤ 64 * x.sz := fun x hx he => tx_len x (okE_kid (h2 x hx) he) (hnp.2.2 x hx)
  unfold varP at hv
  unfold varT
  rw [List.length_append]
  cases hf : v.flag with
  | false =>
    rw [hf, if_neg (by decide)] at hv
    rw [if_neg (by decide)]
    match hl : v.kids with
    | [] => simp [iniT]; omega
    | [y] =>
      rw [hl] at hv
      simp only [varK, Bool.false_and, Bool.or_false] at hv
      have := pe y (by rw [hl]; simp) hv
      rw [hl, szs_1] at hsz
      simp only [iniT, if_neg (ne44 y hv), List.length_cons]; omega
    | x :: y :: r => rw [hl] at hv; cases hv
  | true =>
    rw [hf, if_pos rfl] at hv
    rw [if_pos rfl]
    match hl : v.kids with
    | [] => rw [hl] at hv; cases hv
    | x :: r =>
      rw [hl] at hv
      simp only [Bool.and_eq_true] at hv
      obtain ⟨hq, hr⟩ := hv
      have ho := optT_len (okQ_kid (h2 x (by rw [hl]; simp)) hq) (hnp.2.2 x (by rw [hl]; simp))
      match r, hr with
      | [], _ =>
        rw [hl, szs_1] at hsz
        simp [iniT]; omega
      | [y], hr =>
        rw [hl, szs_2] at hsz
        simp only [varK, Bool.true_and, Bool.or_eq_true, beq_iff_eq] at hr
        have hi : (iniT [y]).length ≤ 64 * y.sz + 10 := by
          rcases hr with hr | hr
          · have := pe y (by rw [hl]; simp) hr
            simp only [iniT, if_neg (ne44 y hr), List.length_cons]; omega
          · have hym : y ∈ v.kids := by rw [hl]; simp
            obtain ⟨d1, d2⟩ := may_decl (h2 y hym) (by omega)
            have hyn := numB_parts (hnp.2.2 y hym)
            have hall : ∀ z ∈ y.kids, isE z = true := by unfold declsP at d1; simp [hr] at d1; exact d1.2
            have hj := join2_len' (l := y.kids) tx (fun z hz => tx_len z (okE_kid (d2 z hz) (hall z hz)) (hyn.2.2 z hz)) [] (by decide)
            have := y.sz_eq
            simp only [iniT, if_pos hr, List.length_cons, List.length_append, List.length_nil]; omega
        simp only [List.length_cons, List.length_append]; omega
theorem parT_len {v x : Nd} (h : v.kids = [x]) : (parT v).length + 4 ≤ 64 * v.sz := by
  have hsz := v.sz_eq
  have := str_sz x
  rw [h, szs_1] at hsz
  rw [parT_eq h]
  have : (if v.num = 1 then ([42] : List UInt8) else []).length ≤ 1 := by split <;> simp
  have : (if v.flag then ([91, 93] : List UInt8) else []).length ≤ 2 := by split <;> simp
  simp only [List.length_cons, List.length_append, List.length_nil]; omega
theorem szs_append : ∀ (l r : List Nd), Nd.szs (l ++ r) = Nd.szs l + Nd.szs r
  | [], r => by simp [Nd.szs]
  | x :: l, r => by rw [List.cons_append, Nd.szs, Nd.szs, szs_append l r]; omega
theorem ln_len : ∀ (k : Nat) (n : Nd), n.sz ≤ k → okL n = true → numB n = true → (ln n).length ≤ 64 * n.sz := by
  intro k
  induction k with
  | zero => intro n hk; have := n.sz_pos; omega
  | succ k ih =>
    intro n hk ho hn
    have hsz := n.sz_eq
    have hnp := numB_parts hn
    have kl : ∀ x ∈ n.kids, okL x = true → (ln x).length ≤ 64 * x.sz := fun x hx hox => ih x (by have := Nd.sz_kid hx; omega) hox (hnp.2.2 x hx)
    have ke : ∀ x ∈ n.kids, okE x = true → (tx x).length + 4 ≤ 64 * x.sz := fun x hx hox => tx_len x hox (hnp.2.2 x hx)
    have hkinds : (47 ≤ n.kind ∧ n.kind ≤ 56) ∨ n.kind = 41 ∨ n.kind = 42 ∨ n.kind = 45 := by
      unfold okL at ho
      rw [isS_range] at ho
      simp only [Bool.and_eq_true, Bool.or_eq_true, decide_eq_true_eq, beq_iff_eq] at ho
      omega
    rcases (by omega : n.kind = 49 ∨ n.kind = 50 ∨ n.kind = 52 ∨ n.kind = 51 ∨ n.kind = 41 ∨ n.kind = 42 ∨ n.kind = 45 ∨ n.kind = 47 ∨ n.kind = 48 ∨ n.kind = 53 ∨ n.kind = 54 ∨ n.kind = 55 ∨ n.kind = 56) with hq | hq | hq | hq | hq | hq | hq | hq | hq | hq | hq | hq | hq
    · obtain ⟨h1, h2⟩ := okL_S ho (by omega)
      unfold statsP at h1
      simp only [Bool.and_eq_true, hq, Int.reduceEq, if_false, if_true, Bool.or_eq_true] at h1
      rcases h1.2 with h3 | h3
      · unfold shape at h3
        simp only [Bool.and_eq_true, decide_eq_true_eq] at h3
        obtain ⟨c, a, hl⟩ := len2 h3.1
        rw [hl] at h3 h2
        simp only [zipAll, Bool.and_eq_true, Bool.and_true] at h3
        have := ke c (by rw [hl]; simp) (okE_kid (h2 c (by simp)) h3.2.1)
        have := kl a (by rw [hl]; simp) (okL_kid (h2 a (by simp)) h3.2.2)
        rw [hl, szs_2] at hsz
        rw [ln_49 hq hl]; simp only [List.length_cons, List.length_nil, List.length_append]; omega
      · have h3 := h3.1
        unfold shape at h3
        simp only [Bool.and_eq_true, decide_eq_true_eq] at h3
        obtain ⟨c, a, b, hl⟩ : ∃ c a b, n.kids = [c, a, b] := by
          match hl : n.kids, h3.1 with
          | [c, a, b], _ => exact ⟨c, a, b, rfl⟩
        rw [hl] at h3 h2
        simp only [zipAll, Bool.and_eq_true, Bool.and_true] at h3
        have := ke c (by rw [hl]; simp) (okE_kid (h2 c (by simp)) h3.2.1)
        have := kl a (by rw [hl]; simp) (okL_kid (h2 a (by simp)) h3.2.2.1)
        have := kl b (by rw [hl]; simp) (okL_kid (h2 b (by simp)) h3.2.2.2)
        rw [hl, szs_3] at hsz
        rw [ln_49' hq hl]; simp only [List.length_cons, List.length_nil, List.length_append]; omega
    · obtain ⟨h1, h2⟩ := okL_S ho (by omega)
      unfold statsP at h1
      simp only [Bool.and_eq_true, hq, Int.reduceEq, if_false, if_true] at h1
      have h3 := h1.2
      unfold shape at h3
      simp only [Bool.and_eq_true, decide_eq_true_eq] at h3
      obtain ⟨c, a, hl⟩ := len2 h3.1
      rw [hl] at h3 h2
      simp only [zipAll, Bool.and_eq_true, Bool.and_true] at h3
      have := ke c (by rw [hl]; simp) (okE_kid (h2 c (by simp)) h3.2.1)
      have := kl a (by rw [hl]; simp) (okL_kid (h2 a (by simp)) h3.2.2)
      rw [hl, szs_2] at hsz
      rw [ln_50 hq hl]; simp only [List.length_cons, List.length_nil, List.length_append]; omega
    · obtain ⟨h1, h2⟩ := okL_S ho (by omega)
      unfold statsP at h1
      simp only [Bool.and_eq_true, hq, Int.reduceEq, if_false, if_true] at h1
      have h3 := h1.2
      unfold shape at h3
      simp only [Bool.and_eq_true, decide_eq_true_eq] at h3
      obtain ⟨a, b, c, d, hl⟩ : ∃ a b c d, n.kids = [a, b, c, d] := by
        match hl : n.kids, h3.1 with
        | [a, b, c, d], _ => exact ⟨a, b, c, d, rfl⟩
      rw [hl] at h3 h2
      simp only [zipAll, Bool.and_eq_true, Bool.and_true] at h3
      have := optT_len (okQ_kid (h2 a (by simp)) h3.2.1) (hnp.2.2 a (by rw [hl]; simp))
      have := optT_len (okQ_kid (h2 b (by simp)) h3.2.2.1) (hnp.2.2 b (by rw [hl]; simp))
      have := optT_len (okQ_kid (h2 c (by simp)) h3.2.2.2.1) (hnp.2.2 c (by rw [hl]; simp))
      have := kl d (by rw [hl]; simp) (okL_kid (h2 d (by simp)) h3.2.2.2.2)
      rw [hl, szs_4] at hsz
      rw [ln_52 hq hl]; simp only [List.length_cons, List.length_nil, List.length_append]; omega
    · obtain ⟨h1, h2⟩ := okL_S ho (by omega)
      unfold statsP at h1
      simp only [Bool.and_eq_true, hq, Int.reduceEq, if_false, if_true] at h1
      have h3 := h1.2
      unfold shape at h3
      simp only [Bool.and_eq_true, decide_eq_true_eq] at h3
      obtain ⟨a, c, hl⟩ := len2 h3.1
      rw [hl] at h3 h2
      simp only [zipAll, Bool.and_eq_true, Bool.and_true] at h3
      have := ke c (by rw [hl]; simp) (okE_kid (h2 c (by simp)) h3.2.2)
      have := kl a (by rw [hl]; simp) (okL_kid (h2 a (by simp)) h3.2.1)
      rw [hl, szs_2] at hsz
      rw [ln_51 hq hl]; simp only [List.length_cons, List.length_nil, List.length_append]; omega
    · obtain ⟨h1, h2⟩ := okL_D ho (.inl hq)
      have hall : ∀ x ∈ n.kids, x.kind = 42 := by unfold declsP at h1; simp [hq] at h1; exact fun x hx => (h1.2 x hx).1
      have := szs_len (l := n.kids) ln fun x hx => kl x hx (okL_42 (h2 x hx) (hall x hx))
      rw [ln_41 hq]; simp only [List.length_cons, List.length_nil, List.length_append]; omega
    · obtain ⟨h1, h2⟩ := okL_D ho (.inr (.inl hq))
      obtain ⟨x, r, hl, hall⟩ : ∃ x r, n.kids = x :: r ∧ ∀ v ∈ r, v.kind = 43 := by
        unfold declsP at h1; simp [hq] at h1
        match hl : n.kids, h1.2 with
        | x :: y :: r, h => simp at h; exact ⟨x, y :: r, rfl, fun v hv => by
            rcases List.mem_cons.mp hv with rfl | hv
            · simpa [isK] using h.2.1
            · simpa [isK] using h.2.2 v hv⟩
      have hj := join2_len' (l := r) varT (fun v hv => varT_len (h2 v (by rw [hl]; exact List.mem_cons_of_mem _ hv)) (hall v hv) (hnp.2.2 v (by rw [hl]; exact List.mem_cons_of_mem _ hv))) [] (by decide)
      have := str_sz x
      rw [hl, Nd.szs] at hsz
      rw [ln_42 hq hl]; simp only [List.length_cons, List.length_nil, List.length_append]; omega
    · obtain ⟨h1, h2⟩ := okL_D ho (.inr (.inr hq))
      obtain ⟨x, r, z, hl, hz47, hall⟩ : ∃ x r z, n.kids = x :: (r ++ [z]) ∧ z.kind = 47 ∧ ∀ v ∈ r, v.kind = 46 := by
        unfold declsP at h1; simp [hq] at h1
        have hfn := h1.2
        unfold funK at hfn
        match hl : n.kids with
        | [] => rw [hl] at hfn; cases hfn
        | [x] => rw [hl] at hfn; cases hfn
        | x :: y :: r =>
          rw [hl] at hfn
          have hzz : (y :: r)[r.length]? = some ((y :: r)[r.length]'(by simp)) := List.getElem?_eq_getElem _
          simp only [hzz, Bool.and_eq_true, beq_iff_eq, List.all_eq_true] at hfn
          refine ⟨x, (y :: r).take r.length, (y :: r)[r.length]'(by simp), ?_, hfn.1.2, fun v hv => by simpa [isK] using hfn.2 v hv⟩
          congr 1
          conv => lhs; rw [← List.take_append_drop r.length (y :: r)]
          rw [List.drop_eq_getElem_cons (by simp), List.drop_eq_nil_of_le (by simp)]
      have hzm : z ∈ n.kids := by rw [hl]; simp
      have := kl z hzm (okL_kid (h2 z hzm) (by rw [isS_range]; simp [hz47]))
      have := str_sz x
      have hj := join2_len' (l := r) parT (fun v hv => by
        have hv' : v ∈ n.kids := by rw [hl]; simp [hv]
        obtain ⟨⟨y, hy⟩, _⟩ := PP_of (h2 v hv') (hall v hv) (hnp.2.2 v hv')
        exact parT_len hy) [] (by decide)
      have hln : ln n = x.str ++ 32 :: (n.str ++ 40 :: (join2 [] (r.map parT) ++ (41 :: 32 :: ln z))) := by
        rw [ln_45 hq hl]
        have e1 : (r ++ [z]).dropLast = r := by simp
        have e2 : ((x :: (r ++ [z])).map ln).getLastD [] = ln z := by
          rw [show (x :: (r ++ [z])).map ln = (ln x :: r.map ln) ++ [ln z] by simp, List.getLastD_eq_getLast?, List.getLast?_concat]; rfl
        rw [e1, e2]
      rw [hl, Nd.szs, szs_append, szs_1] at hsz
      rw [hln]; simp only [List.length_cons, List.length_nil, List.length_append]; omega
    · obtain ⟨h1, h2⟩ := okL_S ho (by omega)
      have hall : ∀ y ∈ n.kids, isS y = true ∨ y.kind = 42 := by unfold statsP at h1; simp [hq] at h1; exact h1.2
      have := szs_len (l := n.kids) ln fun x hx => kl x hx (by
        rcases hall x hx with h | h
        · exact okL_kid (h2 x hx) h
        · exact okL_42 (h2 x hx) h)
      rw [ln_47 hq]; simp only [List.length_cons, List.length_nil, List.length_append]; omega
    · obtain ⟨h1, h2⟩ := okL_S ho (by omega)
      unfold statsP at h1
      simp only [Bool.and_eq_true, hq, Int.reduceEq, if_false, if_true] at h1
      have h1 := h1.2
      rw [shape1] at h1
      simp only [Bool.and_eq_true, decide_eq_true_eq] at h1
      obtain ⟨x, hl⟩ := len1 h1.1
      rw [hl] at h1 h2
      have := ke x (by rw [hl]; simp) (okE_kid (h2 x (by simp)) (by simpa using h1.2))
      rw [hl, szs_1] at hsz
      rw [ln_48 hq hl]; simp only [List.length_cons, List.length_nil, List.length_append]; omega
    · rw [ln_53 hq]; simp only [List.length_cons, List.length_nil]; omega
    · rw [ln_54 hq]; simp only [List.length_cons, List.length_nil]; omega
    · obtain ⟨h1, h2⟩ := okL_S ho (by omega)
      unfold statsP at h1
      simp only [Bool.and_eq_true, hq, Int.reduceEq, if_false, if_true, decide_eq_true_eq] at h1
      have h1 := h1.2
      match hl : n.kids with
      | [] => rw [ln_55 hq hl]; simp only [List.length_cons, List.length_nil]; omega
      | [x] =>
        rw [hl] at h1 h2
        have := ke x (by rw [hl]; simp) (okE_kid (h2 x (by simp)) (by simpa using h1.2))
        rw [hl, szs_1] at hsz
        rw [ln_55' hq hl]; simp only [List.length_cons, List.length_nil, List.length_append]; omega
      | x :: y :: r => rw [hl] at h1; simp at h1; omega
    · rw [ln_56 hq]; simp only [List.length_cons, List.length_nil]; omega
theorem prText_len {n : Nd} (h : checkP n = true) (hn : numB n = true) : (prText n).length ≤ 64 * n.sz := by
  obtain ⟨_, hk⟩ := check_parts h
  have := szs_len (l := n.kids) ln fun x hx => ln_len x.sz x (Nat.le_refl _) (hk x hx) ((numB_parts hn).2.2 x hx)
  have := n.sz_eq
  unfold prText
  omega
/-- The law's function answers 'true'. -/
theorem s_law {n : Nd} (hs : n.sz < 67108864) (hn : numB n = true) (H : Heap) : W m 3 [n.av] H = .ok (.bool true, H) := by
  have a1 := fun H => s_print (m := m) hs hn (fun h => by have := prText_len h hn; omega) H
  have a2 := fun H => s_printR (m := m) hs hn H
  have a3 := fun H => s_awake (m := m) H
  rw [n.av_eq]
  refine c3 rfl n.kind n.str n.num n.flag _ n.pos H ?_
  unfold g3
  simp only [fold_cs, fold_av]
  simp -implicitDefEqProofs [a1, a2, a3, M.extract, M.ofOpt]
end Go.Proofs.YtnhblghplohonaaGreatDoor.Ab
