/- Texts of trees. (Plain definitions and laws.) -/
import Derived.Test.YtnhblghplohonaaGreatDoorAbF1
import Derived.Test.YtnhblghplohonaaGreatDoorAbV9
set_option linter.unusedSimpArgs false
set_option linter.unusedVariables false
namespace Go.Proofs.YtnhblghplohonaaGreatDoor.Ab
open Go

/-- An operator's level. -/
def opL (s : List UInt8) : Int :=
  if s = [124, 124] then 2 else if s = [38, 38] then 3 else if s = [124] then 4 else if s = [94] then 5 else if s = [38] then 6
  else if s = [61, 61] ∨ s = [33, 61] then 7 else if s = [60] ∨ s = [62] ∨ s = [60, 61] ∨ s = [62, 61] then 8 else if s = [60, 60] ∨ s = [62, 62] then 9 else if s = [43] ∨ s = [45] then 10 else 11
def levelN (n : Nd) : Int := if n.kind = 13 then 0 else if n.kind = 12 then 1 else if n.kind = 10 ∨ n.kind = 11 then opL n.str else if n.kind = 9 ∨ n.kind = 14 ∨ n.kind = 15 then 12 else 13
def par (n : Nd) (k : Int) (t : List UInt8) : List UInt8 := if levelN n < k then 40 :: (t ++ [41]) else t
/-- Texts with ', ' between. -/
def joinC : List (List UInt8) → List UInt8
  | [] => []
  | [t] => t
  | t :: r => t ++ 44 :: 32 :: joinC r
def join2 : List UInt8 → List (List UInt8) → List UInt8
  | _, [] => []
  | sep, t :: r => sep ++ t ++ join2 ([44, 32]) r
mutual
/-- An expression's text. -/
def tx : Nd → List UInt8
  | .mk k s n f _ l _ =>
    if k = 1 then Lib.decDigits n.toNat ++ (if f then [117] else [])
    else if k = 2 then [39, 92, 120, hexd (n.toNat / 16), hexd (n.toNat % 16), 39]
    else if k = 3 then quote s
    else if k = 4 then s
    else if k = 5 then (match l, txs l with | [a, b], [ta, tb] => par a 13 ta ++ 91 :: (par b 0 tb ++ [93]) | _, _ => [])
    else if k = 6 then (match l, txs l with | [a], [ta] => par a 13 ta ++ 46 :: s | _, _ => [])
    else if k = 7 then (match l, txs l with | [a], [ta] => par a 13 ta ++ 45 :: 62 :: s | _, _ => [])
    else if k = 8 then s ++ 40 :: (join2 [] (txs l) ++ [41])
    else if k = 9 then (match l, txs l with | [a], [ta] => s ++ ((if a.kind = 9 ∧ a.str = s then [32] else []) ++ par a 12 ta) | _, _ => [])
    else if k = 10 ∨ k = 11 then (match l, txs l with | [a, b], [ta, tb] => par a (opL s) ta ++ 32 :: (s ++ 32 :: par b (opL s + 1) tb) | _, _ => [])
    else if k = 12 then (match l, txs l with | [a, b, c], [ta, tb, tc] => par a 2 ta ++ 32 :: 63 :: 32 :: (par b 0 tb ++ 32 :: 58 :: 32 :: par c 1 tc) | _, _ => [])
    else if k = 13 then (match l, txs l with | [a, b], [ta, tb] => par a 13 ta ++ 32 :: (s ++ 32 :: par b 0 tb) | _, _ => [])
    else if k = 14 then (match l, txs l with | [a, b], [_, tb] => 40 :: (a.str ++ 41 :: par b 12 tb) | _, _ => [])
    else if k = 15 then (match l, txs l with
      | [a], [ta] => if a.kind = 16 then [115, 105, 122, 101, 111, 102, 40] ++ (a.str ++ [41]) else if a.kind = 14 then [115, 105, 122, 101, 111, 102, 32, 40] ++ (ta ++ [41]) else [115, 105, 122, 101, 111, 102, 32] ++ par a 12 ta
      | _, _ => [])
    else []
def txs : List Nd → List (List UInt8)
  | [] => []
  | x :: r => tx x :: txs r
end
theorem txs_map : ∀ l : List Nd, txs l = l.map tx
  | [] => rfl
  | x :: r => by rw [txs, txs_map r, List.map_cons]
theorem ite_ge {c : Prop} [Decidable c] {a b : Int} (ha : 2 ≤ a) (hb : 2 ≤ b) : 2 ≤ (if c then a else b) := by
  by_cases h : c
  · rw [if_pos h]; exact ha
  · rw [if_neg h]; exact hb
theorem opL_ge (s : List UInt8) : 2 ≤ opL s := by
  unfold opL
  iterate 9 refine ite_ge (by decide) ?_
  decide
theorem levelN_ge (n : Nd) : 0 ≤ levelN n := by
  unfold levelN
  have := opL_ge n.str
  split
  · decide
  split
  · decide
  split
  · omega
  split
  · decide
  decide
theorem par_0 (n : Nd) (t : List UInt8) : par n 0 t = t := by unfold par; rw [if_neg (by have := levelN_ge n; omega)]
theorem tx_1 {n : Nd} (h : n.kind = 1) : tx n = Lib.decDigits n.num.toNat ++ (if n.flag then [117] else []) := by
  cases n; simp only [Nd.kind] at h; subst h; unfold tx; rfl
theorem tx_2 {n : Nd} (h : n.kind = 2) : tx n = [39, 92, 120, hexd (n.num.toNat / 16), hexd (n.num.toNat % 16), 39] := by
  cases n; simp only [Nd.kind] at h; subst h; unfold tx; rfl
theorem tx_3 {n : Nd} (h : n.kind = 3) : tx n = quote n.str := by cases n; simp only [Nd.kind] at h; subst h; unfold tx; rfl
theorem tx_4 {n : Nd} (h : n.kind = 4) : tx n = n.str := by cases n; simp only [Nd.kind] at h; subst h; unfold tx; rfl
theorem tx_5 {n a b : Nd} (h : n.kind = 5) (hk : n.kids = [a, b]) : tx n = par a 13 (tx a) ++ 91 :: (par b 0 (tx b) ++ [93]) := by
  cases n; simp only [Nd.kind, Nd.kids] at h hk; subst h hk
  conv => lhs; unfold tx
  simp [txs_map, Nd.str]
theorem tx_6 {n a : Nd} (h : n.kind = 6) (hk : n.kids = [a]) : tx n = par a 13 (tx a) ++ 46 :: n.str := by
  cases n; simp only [Nd.kind, Nd.kids] at h hk; subst h hk
  conv => lhs; unfold tx
  simp [txs_map, Nd.str]
theorem tx_7 {n a : Nd} (h : n.kind = 7) (hk : n.kids = [a]) : tx n = par a 13 (tx a) ++ 45 :: 62 :: n.str := by
  cases n; simp only [Nd.kind, Nd.kids] at h hk; subst h hk
  conv => lhs; unfold tx
  simp [txs_map, Nd.str]
theorem tx_8 {n : Nd} (h : n.kind = 8) : tx n = n.str ++ 40 :: (join2 [] (n.kids.map tx) ++ [41]) := by
  cases n; simp only [Nd.kind] at h; subst h; unfold tx; rw [txs_map]; rfl
theorem tx_9 {n a : Nd} (h : n.kind = 9) (hk : n.kids = [a]) : tx n = n.str ++ ((if a.kind = 9 ∧ a.str = n.str then [32] else []) ++ par a 12 (tx a)) := by
  cases n; simp only [Nd.kind, Nd.kids] at h hk; subst h hk
  conv => lhs; unfold tx
  simp [txs_map, Nd.str]
  rfl
theorem tx_10 {n a b : Nd} (h : n.kind = 10 ∨ n.kind = 11) (hk : n.kids = [a, b]) : tx n = par a (opL n.str) (tx a) ++ 32 :: (n.str ++ 32 :: par b (opL n.str + 1) (tx b)) := by
  cases n; simp only [Nd.kind, Nd.kids] at h hk; subst hk; rcases h with rfl | rfl
  · conv => lhs; unfold tx
    simp [txs_map, Nd.str]
  · conv => lhs; unfold tx
    simp [txs_map, Nd.str]
theorem tx_12 {n a b c : Nd} (h : n.kind = 12) (hk : n.kids = [a, b, c]) : tx n = par a 2 (tx a) ++ 32 :: 63 :: 32 :: (par b 0 (tx b) ++ 32 :: 58 :: 32 :: par c 1 (tx c)) := by
  cases n; simp only [Nd.kind, Nd.kids] at h hk; subst h hk
  conv => lhs; unfold tx
  simp [txs_map, Nd.str]
theorem tx_13 {n a b : Nd} (h : n.kind = 13) (hk : n.kids = [a, b]) : tx n = par a 13 (tx a) ++ 32 :: (n.str ++ 32 :: par b 0 (tx b)) := by
  cases n; simp only [Nd.kind, Nd.kids] at h hk; subst h hk
  conv => lhs; unfold tx
  simp [txs_map, Nd.str]
theorem tx_14 {n a b : Nd} (h : n.kind = 14) (hk : n.kids = [a, b]) : tx n = 40 :: (a.str ++ 41 :: par b 12 (tx b)) := by
  cases n; simp only [Nd.kind, Nd.kids] at h hk; subst h hk
  conv => lhs; unfold tx
  simp [txs_map, Nd.str]
theorem tx_15 {n a : Nd} (h : n.kind = 15) (hk : n.kids = [a]) : tx n = if a.kind = 16 then [115, 105, 122, 101, 111, 102, 40] ++ (a.str ++ [41]) else if a.kind = 14 then [115, 105, 122, 101, 111, 102, 32, 40] ++ (tx a ++ [41]) else [115, 105, 122, 101, 111, 102, 32] ++ par a 12 (tx a) := by
  cases n; simp only [Nd.kind, Nd.kids] at h hk; subst h hk
  conv => lhs; unfold tx
  simp [txs_map, Nd.str]

/- ### What an expression that may be has -/
theorem okE_parts {n : Nd} (h : okE n = true) : 1 ≤ n.kind ∧ n.kind ≤ 15 ∧ itselfP n = true ∧ ∀ x ∈ n.kids, mayP x = true := by
  unfold okE isE at h
  rw [mayP_eq] at h
  simp only [Bool.and_eq_true, decide_eq_true_eq, List.all_eq_true] at h
  exact ⟨h.1.1, h.1.2, h.2.1, h.2.2⟩
theorem okE_exprs {n : Nd} (h : okE n = true) : exprsP n = true := by
  obtain ⟨h1, h2, h3, _⟩ := okE_parts h
  unfold itselfP at h3
  have he : isE n = true := by unfold isE; simp [h1, h2]
  rw [he] at h3
  simp only [Bool.true_or, if_true, Bool.and_eq_true] at h3
  exact h3.2
theorem okE_E1 {n : Nd} (h : okE n = true) (hk : n.kind = 6 ∨ n.kind = 7 ∨ n.kind = 9) : ∃ a, n.kids = [a] ∧ okE a = true := by
  have h1 := okE_exprs h
  obtain ⟨_, _, _, hm⟩ := okE_parts h
  have : shape n.kids [isE] = true := by
    unfold exprsP at h1
    rcases hk with hk | hk | hk <;> simp [hk] at h1 <;> exact h1.2
  rw [shape1] at this
  simp only [Bool.and_eq_true, decide_eq_true_eq] at this
  obtain ⟨a, ha⟩ := len1 this.1
  rw [ha] at this hm
  exact ⟨a, ha, by unfold okE; rw [hm a (by simp)]; simpa using this.2⟩
theorem okE_E2 {n : Nd} (h : okE n = true) (hk : n.kind = 5 ∨ n.kind = 10 ∨ n.kind = 11) : ∃ a b, n.kids = [a, b] ∧ okE a = true ∧ okE b = true := by
  have h1 := okE_exprs h
  obtain ⟨_, _, _, hm⟩ := okE_parts h
  have : shape n.kids [isE, isE] = true := by
    unfold exprsP at h1
    rcases hk with hk | hk | hk <;> simp [hk] at h1 <;> exact h1.2
  rw [shape2] at this
  simp only [Bool.and_eq_true, decide_eq_true_eq] at this
  obtain ⟨a, b, ha⟩ := len2 this.1
  rw [ha] at this hm
  simp only [List.all_cons, List.all_nil, Bool.and_true, Bool.and_eq_true] at this
  exact ⟨a, b, ha, by unfold okE; rw [hm a (by simp), this.2.1]; rfl, by unfold okE; rw [hm b (by simp), this.2.2]; rfl⟩
theorem okE_E3 {n : Nd} (h : okE n = true) (hk : n.kind = 12) : ∃ a b c, n.kids = [a, b, c] ∧ okE a = true ∧ okE b = true ∧ okE c = true := by
  have h1 := okE_exprs h
  obtain ⟨_, _, _, hm⟩ := okE_parts h
  have : shape n.kids [isE, isE, isE] = true := by
    unfold exprsP at h1
    simp [hk] at h1; exact h1.2
  rw [shape3] at this
  simp only [Bool.and_eq_true, decide_eq_true_eq] at this
  obtain ⟨a, b, c, ha⟩ : ∃ a b c, n.kids = [a, b, c] := by
    match hl : n.kids, this.1 with
    | [a, b, c], _ => exact ⟨a, b, c, rfl⟩
  rw [ha] at this hm
  simp only [List.all_cons, List.all_nil, Bool.and_true, Bool.and_eq_true] at this
  exact ⟨a, b, c, ha, by unfold okE; rw [hm a (by simp), this.2.1]; rfl, by unfold okE; rw [hm b (by simp), this.2.2.1]; rfl, by unfold okE; rw [hm c (by simp), this.2.2.2]; rfl⟩
theorem okE_A {n : Nd} (h : okE n = true) (hk : n.kind = 13) : ∃ a b, n.kids = [a, b] ∧ okE a = true ∧ okE b = true := by
  have h1 := okE_exprs h
  obtain ⟨_, _, _, hm⟩ := okE_parts h
  have : shape n.kids [isP, isE] = true := by
    unfold exprsP at h1
    simp [hk] at h1; exact h1.2
  unfold shape at this
  simp only [Bool.and_eq_true, decide_eq_true_eq] at this
  obtain ⟨a, b, ha⟩ := len2 this.1
  rw [ha] at this hm
  simp only [zipAll, Bool.and_true, Bool.and_eq_true] at this
  have hp := isE_isP a
  rw [this.2.1, Bool.and_true] at hp
  exact ⟨a, b, ha, by unfold okE; rw [hm a (by simp), hp]; rfl, by unfold okE; rw [hm b (by simp), this.2.2]; rfl⟩
theorem okE_C {n : Nd} (h : okE n = true) (hk : n.kind = 14) : ∃ a b, n.kids = [a, b] ∧ a.kind = 16 ∧ okE b = true := by
  have h1 := okE_exprs h
  obtain ⟨_, _, _, hm⟩ := okE_parts h
  have : shape n.kids [isK 16, isE] = true := by
    unfold exprsP at h1
    simp [hk] at h1; exact h1.2
  unfold shape at this
  simp only [Bool.and_eq_true, decide_eq_true_eq] at this
  obtain ⟨a, b, ha⟩ := len2 this.1
  rw [ha] at this hm
  simp only [zipAll, Bool.and_true, Bool.and_eq_true, isK, beq_iff_eq] at this
  exact ⟨a, b, ha, this.2.1, by unfold okE; rw [hm b (by simp), this.2.2]; rfl⟩
theorem okE_S {n : Nd} (h : okE n = true) (hk : n.kind = 15) : ∃ a, n.kids = [a] ∧ (a.kind = 16 ∨ okE a = true) := by
  have h1 := okE_exprs h
  obtain ⟨_, _, _, hm⟩ := okE_parts h
  have : shape n.kids [fun k => k.kind == 16 || isE k] = true := by
    unfold exprsP at h1
    simp [hk] at h1; simpa using h1.2
  rw [shape1] at this
  simp only [Bool.and_eq_true, decide_eq_true_eq] at this
  obtain ⟨a, ha⟩ := len1 this.1
  rw [ha] at this hm
  simp only [List.all_cons, List.all_nil, Bool.and_true, Bool.or_eq_true, beq_iff_eq] at this
  refine ⟨a, ha, this.2.imp id fun he => ?_⟩
  unfold okE; rw [hm a (by simp), he]; rfl
theorem okE_call {n : Nd} (h : okE n = true) (hk : n.kind = 8) : ∀ x ∈ n.kids, okE x = true := by
  have h1 := okE_exprs h
  obtain ⟨_, _, _, hm⟩ := okE_parts h
  unfold exprsP at h1
  simp [hk] at h1
  intro x hx
  unfold okE; rw [hm x hx, h1.2 x hx]; rfl
theorem okE_op {n : Nd} (h : okE n = true) (hk : n.kind = 10 ∨ n.kind = 11) : one binS n.str = true ∨ one logS n.str = true := by
  have h1 := okE_exprs h
  unfold exprsP at h1
  rcases hk with hk | hk <;> simp [hk] at h1
  · exact .inl h1.1.2
  · exact .inr h1.1.2
theorem okE_un {n : Nd} (h : okE n = true) (hk : n.kind = 9) : one unS n.str = true := by
  have h1 := okE_exprs h
  unfold exprsP at h1
  simp [hk] at h1
  exact h1.1.2
theorem okE_ch {n : Nd} (h : okE n = true) (hk : n.kind = 2) : n.num < 256 := by
  have h1 := okE_exprs h
  unfold exprsP at h1
  simp [hk] at h1
  exact h1.1.2
end Go.Proofs.YtnhblghplohonaaGreatDoor.Ab
