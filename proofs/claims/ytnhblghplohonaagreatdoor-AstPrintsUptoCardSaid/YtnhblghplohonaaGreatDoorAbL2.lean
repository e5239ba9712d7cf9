/- The abstract machine: operations whose order is open: every order does what the text's does. -/
import Derived.Test.YtnhblghplohonaaGreatDoorAbL
set_option linter.unusedSimpArgs false
set_option linter.unusedVariables false
namespace Go.Proofs.YtnhblghplohonaaGreatDoor.Ab
open Go

section
variable {β : Type} {X : Ctx} {f : Nat} {Γ : CallsT}

/-- The states of a run in the text's order. -/
structure Run (X : Ctx) (f : Nat) (Γ : CallsT) (all : List Oper) (T : List (List Nat)) where
  G : Nat → List GE
  E : Nat → Env
  L : Nat → Locs
  H : Nat → Heap
  e : Nat → EV
structure Run.At {all : List Oper} {T : List (List Nat)} (R : Run X f Γ all T) (j : Nat) (o : Oper) : Prop where
  nl : newLoc X f o = false
  keep : mustRest X f all T j = true ∨ cls X f o ≤ 1 → R.L (j + 1) = R.L j ∧ R.H (j + 1) = R.H j
  adds : Adds all o (R.G j) (R.G (j + 1))
  step : ∀ (β : Type) K, stepD (β := β) X f Γ all (mustRest X f all T j) o (R.G j) (R.E j) (R.L j) (R.H j) K = K (R.G (j + 1)) (R.e j) (R.L (j + 1)) (R.H (j + 1))
  env : R.E (j + 1) = (R.E j).put o.dst (R.e j)

theorem evDr_run {all : List Oper} {T : List (List Nat)} {r : β} {k : Env → Locs → Heap → Out β} : ∀ {rest : List Oper} {i : Nat} {G : List GE} {E : Env} {L : Locs} {H : Heap}, evDr X f Γ all T i rest G E L H k = .ok r →
    ∃ R : Run X f Γ all T, R.G i = G ∧ R.E i = E ∧ R.L i = L ∧ R.H i = H ∧ k (R.E (i + rest.length)) (R.L (i + rest.length)) (R.H (i + rest.length)) = .ok r ∧ ∀ m o, rest[m]? = some o → R.At (i + m) o
  | [], i, G, E, L, H, h => ⟨⟨fun _ => G, fun _ => E, fun _ => L, fun _ => H, fun _ => .dead⟩, rfl, rfl, rfl, rfl, h, fun m o hm => by simp at hm⟩
  | o :: rest, i, G, E, L, H, h => by
    simp only [evDr] at h
    rcases stepD_det (X := X) (f := f) (Γ := Γ) (all := all) (q := mustRest X f all T i) (o := o) (G := G) (E := E) (L := L) (H := H) with ⟨G', e, L', H', h1, h2, h3, h4⟩ | h4
    · rw [h4] at h
      obtain ⟨R, q1, q2, q3, q4, q5, q6⟩ := evDr_run h
      refine ⟨⟨fun j => if j = i then G else R.G j, fun j => if j = i then E else R.E j, fun j => if j = i then L else R.L j, fun j => if j = i then H else R.H j, fun j => if j = i then e else R.e j⟩, by simp, by simp, by simp, by simp, ?_, ?_⟩
      · have : i + (o :: rest).length = i + 1 + rest.length := by simp; omega
        simp only [this]
        rw [if_neg (by omega), if_neg (by omega), if_neg (by omega)]
        exact q5
      · intro m o' hm
        cases m with
        | zero =>
          simp at hm
          subst hm
          have n0 : ¬ (i + 1 = i) := by omega
          refine ⟨h1, ?_, ?_, ?_, ?_⟩
          · simp only [Nat.add_zero, if_neg n0, if_true, q3, q4]; exact h2
          · simp only [Nat.add_zero, if_neg n0, if_true, q1]; exact h3
          · intro β K; simp only [Nat.add_zero, if_neg n0, if_true, q1, q3, q4]; exact h4 β K
          · simp only [Nat.add_zero, if_neg n0, if_true]; exact q2
        | succ m =>
          simp at hm
          have hA := q6 m o' hm
          have e1 : i + (m + 1) = i + 1 + m := by omega
          rw [e1]
          have n1 : ¬ (i + 1 + m = i) := by omega
          have n2 : ¬ (i + 1 + m + 1 = i) := by omega
          refine ⟨hA.nl, ?_, ?_, ?_, ?_⟩
          · simp only [if_neg n1, if_neg n2]; exact hA.keep
          · simp only [if_neg n1, if_neg n2]; exact hA.adds
          · intro β K; simp only [if_neg n1, if_neg n2]; exact hA.step β K
          · simp only [if_neg n1, if_neg n2]; exact hA.env
    · rw [h4] at h; cases h

/- ### What stands ahead -/
theorem predsT_len : ∀ {l : List Oper} {acc : List (List Nat)}, (predsT l acc).length = acc.length + l.length
  | [], acc => by simp [predsT]
  | o :: r, acc => by rw [predsT, predsT_len]; simp; omega
theorem predsT_old : ∀ {l : List Oper} {acc : List (List Nat)} {i : Nat}, i < acc.length → (predsT l acc).getD i [] = acc.getD i []
  | [], acc, i, h => rfl
  | o :: r, acc, i, h => by
    rw [predsT, predsT_old (by simp; omega)]
    simp [List.getElem?_append_left h]
theorem predsT_get : ∀ {l : List Oper} {acc : List (List Nat)} {m : Nat} {o : Oper}, l[m]? = some o → ∀ x, x ∈ (predsT l acc).getD (acc.length + m) [] ↔
    ∃ e ∈ o.after.toList, Region.binds .any e = true ∧ (x = e.on ∨ (e.on < acc.length + m ∧ x ∈ (predsT l acc).getD e.on []))
  | [], acc, m, o, h => by simp at h
  | p :: r, acc, 0, o, h => by
    simp at h
    subst h
    intro x
    rw [predsT]
    rw [predsT_old (by simp)]
    simp only [Nat.add_zero, List.getD_eq_getElem?_getD, List.getElem?_append_right (Nat.le_refl _), Nat.sub_self, List.getElem?_cons_zero, Option.getD_some, List.mem_eraseDups, List.mem_flatMap, List.mem_filter, List.mem_cons]
    constructor
    · rintro ⟨e, ⟨h1, h2⟩, h3⟩
      refine ⟨e, h1, h2, ?_⟩
      rcases h3 with h3 | h3
      · exact .inl h3
      · by_cases hlt : e.on < acc.length
        · refine .inr ⟨hlt, ?_⟩
          rw [← List.getD_eq_getElem?_getD, predsT_old (by simp; omega)]
          simpa [List.getElem?_append_left hlt] using h3
        · rw [List.getElem?_eq_none (by omega)] at h3; simp at h3
    · rintro ⟨e, h1, h2, h3⟩
      refine ⟨e, ⟨h1, h2⟩, ?_⟩
      rcases h3 with h3 | ⟨hlt, h3⟩
      · exact .inl h3
      · rw [← List.getD_eq_getElem?_getD, predsT_old (by simp; omega)] at h3
        exact .inr (by simpa [List.getElem?_append_left hlt] using h3)
  | p :: r, acc, m + 1, o, h => by
    simp at h
    intro x
    rw [predsT]
    have := predsT_get (acc := acc ++ [((p.after.toList.filter (Region.binds .any)).flatMap fun e => e.on :: acc.getD e.on []).eraseDups]) h x
    rw [List.length_append, List.length_singleton] at this
    have e1 : acc.length + (m + 1) = acc.length + 1 + m := by omega
    rw [e1]
    exact this

theorem find_filter {E : Env} {p : Nat → Bool} {t : Nat} : Env.find (E.filter fun q => p q.1) t = if p t = true then E.find t else none := by
  induction E with
  | nil => simp [Env.find]
  | cons q E ih =>
    obtain ⟨i, e⟩ := q
    rw [List.filter_cons]
    by_cases hp : p i = true
    · rw [if_pos hp, find_cons, find_cons, ih]
      by_cases hi : i = t
      · subst hi; simp [hp]
      · simp [hi]
    · rw [if_neg (by simpa using hp), ih, find_cons]
      by_cases hi : i = t
      · subst hi; simp [hp]
      · simp [hi]
theorem findG_filter {G : List GE} {t : Nat} : findG (G.filter fun x => x.i == t) t = findG G t := by
  induction G with
  | nil => rfl
  | cons x G ih =>
    rw [List.filter_cons]
    by_cases hx : x.i == t
    · rw [if_pos hx]; simp only [findG, hx, if_true]
    · rw [if_neg hx, ih]; simp only [findG]; rw [if_neg hx]

/-- What the look at the operations has shown. -/
structure OkT (X : Ctx) (f : Nat) (ops : Array Oper) (T : List (List Nat)) : Prop where
  lt : ∀ i, i < ops.size → ∀ m ∈ T.getD i [], m < i
  gd : ∀ i o j w, ops[i]? = some o → o.guard = some (j, w) → j ∈ T.getD i []
  dst : ∀ i j oi oj d, ops[i]? = some oi → ops[j]? = some oj → i ≠ j → oj.dst = some d → oi.dst ≠ some d ∧ (d ∈ looksOf ops.toList oi → j ∈ T.getD i [] ∨ i ∈ T.getD j [])
  cl : ∀ i j, i < ops.size → j < ops.size → i ≠ j → cls2 X f ops.toList T i = 2 → cls2 X f ops.toList T j ≠ 0 → j ∈ T.getD i [] ∨ i ∈ T.getD j []
  get : ∀ i o, ops[i]? = some o → ∀ x, x ∈ T.getD i [] ↔ ∃ e ∈ o.after.toList, Region.binds .any e = true ∧ (x = e.on ∨ (e.on < i ∧ x ∈ T.getD e.on []))
theorem ordered_or {T : List (List Nat)} {i j : Nat} (h : ordered T i j = true) : j ∈ T.getD i [] ∨ i ∈ T.getD j [] := by
  unfold ordered ahead at h
  have h1 : i ∈ T.getD j [] ∨ j ∈ T.getD i [] := by simpa using h
  exact h1.symm
theorem okT_of {ops : Array Oper} (h : drawOk X f ops.toList (predsT ops.toList []) = true) : OkT X f ops (predsT ops.toList []) := by
  have hget : ∀ i o, ops[i]? = some o → ∀ x, x ∈ (predsT ops.toList []).getD i [] ↔ ∃ e ∈ o.after.toList, Region.binds .any e = true ∧ (x = e.on ∨ (e.on < i ∧ x ∈ (predsT ops.toList []).getD e.on [])) := by
    intro i o ho x
    have := predsT_get (acc := []) (l := ops.toList) (m := i) (o := o) (by simpa using ho) x
    simpa using this
  generalize predsT ops.toList [] = T at h hget ⊢
  unfold drawOk at h
  simp only [List.all_eq_true, List.mem_range, Bool.and_eq_true, Bool.or_eq_true, beq_iff_eq, Array.length_toList] at h
  refine ⟨fun i hi m hm => by simpa using (h i hi).1.1 m hm, fun i o j w ho hg => ?_, fun i j oi oj d hoi hoj hij hd => ?_, fun i j hi hj hij h1 h2 => ?_, hget⟩
  · have hi : i < ops.size := (Array.getElem?_eq_some_iff.1 ho).1
    have h1 := (h i hi).1.2
    have ho' : ops.toList[i]? = some o := by simpa using ho
    simp only [ho', Option.bind_some, hg, ahead] at h1
    simpa using h1
  · have hi : i < ops.size := (Array.getElem?_eq_some_iff.1 hoi).1
    have hj : j < ops.size := (Array.getElem?_eq_some_iff.1 hoj).1
    have h1 := (h i hi).2 j hj
    have hoi' : ops.toList[i]? = some oi := by simpa using hoi
    have hoj' : ops.toList[j]? = some oj := by simpa using hoj
    rcases h1 with h1 | h1
    · exact absurd h1 hij
    · simp only [hoi', hoj', hd, Bool.and_eq_true, Bool.or_eq_true, Bool.not_eq_true'] at h1
      refine ⟨by simpa using h1.1.1, fun hl => ?_⟩
      rcases h1.1.2 with h3 | h3
      · simp [hl] at h3
      · exact ordered_or h3
  · have h3 := (h i hi).2 j hj
    rcases h3 with h3 | h3
    · exact absurd h3 hij
    · rcases h3.2 with h4 | h4
      · exact ordered_or h4
      · simp [h1, h2] at h4

theorem Run.env_at {ops : Array Oper} {T : List (List Nat)} (hT : OkT X f ops T) (R : Run X f Γ ops.toList T) (hR : ∀ i o, ops[i]? = some o → R.At i o) {t : Nat} : ∀ {i : Nat}, i ≤ ops.size →
    (∀ m o, m < i → ops[m]? = some o → o.dst = some t → (R.E i).find t = some (R.e m)) ∧ ((∀ m o, m < i → ops[m]? = some o → o.dst ≠ some t) → (R.E i).find t = (R.E 0).find t)
  | 0, _ => ⟨fun m o h => by omega, fun _ => rfl⟩
  | i + 1, hi => by
    obtain ⟨h1, h2⟩ := Run.env_at hT R hR (t := t) (i := i) (by omega)
    have hoi : ops[i]? = some ops[i] := Array.getElem?_eq_getElem (by omega)
    have hE := (hR i _ hoi).env
    have hput : ops[i].dst ≠ some t → (R.E (i + 1)).find t = (R.E i).find t := fun hne => by
      rw [hE]
      cases hd : ops[i].dst with
      | none => rfl
      | some d => simp only [Env.put, find_cons]; rw [if_neg (fun e => hne (by rw [hd, e]))]
    constructor
    · intro m o hm ho hd
      by_cases hmi : m = i
      · subst hmi
        rw [hoi] at ho
        cases ho
        rw [hE, hd]
        simp only [Env.put, find_cons, if_true]
      · rw [hput ((hT.dst i m _ o t hoi ho (Ne.symm hmi) hd).1)]
        exact h1 m o (by omega) ho hd
    · intro hn
      rw [hput (hn i _ (by omega) hoi)]
      exact h2 fun m o hm ho => hn m o (by omega) ho
theorem cls_le {o : Oper} : cls X f o ≤ 2 := by
  unfold cls
  split <;> first | omega | (split <;> first | omega | (split <;> omega))
theorem cls2_keep {ops : Array Oper} {T : List (List Nat)} {i : Nat} {o : Oper} (ho : ops[i]? = some o) (h : cls2 X f ops.toList T i ≠ 2) : mustRest X f ops.toList T i = true ∨ cls X f o ≤ 1 := by
  unfold cls2 at h
  split at h
  · rename_i hm; exact .inl hm
  · have ho' : ops.toList[i]? = some o := by simpa using ho
    simp only [clsAt, ho'] at h
    have := cls_le (X := X) (f := f) (o := o)
    exact .inr (by omega)
theorem Run.const {ops : Array Oper} {T : List (List Nat)} (R : Run X f Γ ops.toList T) (hR : ∀ i o, ops[i]? = some o → R.At i o) {p : Nat} : ∀ {q : Nat}, p ≤ q → q ≤ ops.size → (∀ i, p ≤ i → i < q → cls2 X f ops.toList T i ≠ 2) → R.L q = R.L p ∧ R.H q = R.H p
  | 0, h, _, _ => by obtain rfl : p = 0 := by omega
                     exact ⟨rfl, rfl⟩
  | q + 1, h, hq, hn => by
    by_cases hpq : p = q + 1
    · subst hpq; exact ⟨rfl, rfl⟩
    · obtain ⟨h1, h2⟩ := Run.const R hR (p := p) (q := q) (by omega) (by omega) fun i hi hi' => hn i hi (by omega)
      have ho : ops[q]? = some ops[q] := Array.getElem?_eq_getElem (by omega)
      obtain ⟨h3, h4⟩ := (hR q _ ho).keep (cls2_keep ho (hn q (by omega) (by omega)))
      exact ⟨h3.trans h1, h4.trans h2⟩
theorem Run.entry {ops : Array Oper} {T : List (List Nat)} (R : Run X f Γ ops.toList T) (hR : ∀ i o, ops[i]? = some o → R.At i o) (h0 : R.G 0 = []) : ∀ {i : Nat}, i ≤ ops.size → ∀ x ∈ R.G i, ∃ c, c < i ∧ R.G (c + 1) = x :: R.G c
  | 0, _, x, hx => by rw [h0] at hx; cases hx
  | i + 1, hi, x, hx => by
    have ho : ops[i]? = some ops[i] := Array.getElem?_eq_getElem (by omega)
    rcases (hR i _ ho).adds with h1 | ⟨y, j, h1, _⟩
    · rw [h1] at hx
      obtain ⟨c, h2, h3⟩ := Run.entry R hR h0 (i := i) (by omega) x hx
      exact ⟨c, by omega, h3⟩
    · rw [h1] at hx
      rcases List.mem_cons.1 hx with rfl | hx
      · exact ⟨i, by omega, h1⟩
      · obtain ⟨c, h2, h3⟩ := Run.entry R hR h0 (i := i) (by omega) x hx
        exact ⟨c, by omega, h3⟩

/-- Where a run in another order stands. -/
structure Inv (ops : Array Oper) (T : List (List Nat)) (R : Run X f Γ ops.toList T) (g0 : Gh) (w0 : World) (a0 : Act) (listed : Array Bool) (g : Gh) (a : Act) (w : World) (m : Nat) : Prop where
  sz : listed.size = ops.size
  down : ∀ i, listed.getD i false = true → ∀ j ∈ T.getD i [], listed.getD j false = true
  vals : ∀ i o d, ops[i]? = some o → listed.getD i false = true → o.dst = some d → ∃ v, a.tmps[d]? = some v ∧ RepE g (R.e i) v
  init : ∀ t e, (∀ i o, ops[i]? = some o → listed.getD i false = true → o.dst ≠ some t) → (R.E 0).find t = some e → ∃ v, a.tmps[t]? = some v ∧ RepE g e v
  ents : ∀ i x, i < ops.size → listed.getD i false = true → R.G (i + 1) = x :: R.G i → EntryOk x a.tmps
  mem : Rel g (R.L m) (R.H m) w.heap
  lo : ∀ i, i < m → cls2 X f ops.toList T i = 2 → listed.getD i false = true
  hi : ∀ i, m ≤ i → i < ops.size → cls2 X f ops.toList T i = 2 → listed.getD i false = false
  ext : Ext g0 g
  stp : StepW w0 w (R.H 0) (R.H m)
  tsz : a.tmps.size = a0.tmps.size
  dfr : a.defers = a0.defers
  mle : m ≤ ops.size

/-- One operation more, in any order. -/
theorem inv_step (hX : X.Ok) (hΓ : Good X Γ) {ops : Array Oper} {T : List (List Nat)} (hT : OkT X f ops T) {R : Run X f Γ ops.toList T} (hR : ∀ i o, ops[i]? = some o → R.At i o) (hG0 : R.G 0 = []) {g0 : Gh} {w0 : World} {a0 : Act} (hGl : GlobOk X g0)
    (hsm : ∀ (i : Nat) (o : Oper) (d : Nat), ops[i]? = some o → o.dst = some d → d < a0.tmps.size) {listed : Array Bool} {g : Gh} {a : Act} {w : World} {m : Nat} (I : Inv ops T R g0 w0 a0 listed g a w m) {i : Nat} {o : Oper} (ho : ops[i]? = some o)
    (hun : listed.getD i false = false) (hrdy : ∀ j ∈ T.getD i [], listed.getD j false = true) {next : Act → World → Prop} {Q : Exit → Act → World → Prop}
    (hn : ∀ g' a' w' m', Inv ops T R g0 w0 a0 (listed.setIfInBounds i true) g' a' w' m' → next a' w') : if Region.wanted o (yielded ops a.tmps) = true then o.wp X.P a w next Q else next (a.put o.dst undef) w := by
  have hi : i < ops.size := (Array.getElem?_eq_some_iff.1 ho).1
  have hA := hR i o ho
  -- what is done and what not
  have ahead_done : ∀ j, (j ∈ T.getD i [] ∨ i ∈ T.getD j []) → j < i → listed.getD j false = true := fun j hj hlt => by
    rcases hj with hj | hj
    · exact hrdy j hj
    · have := hT.lt j (by omega) i hj; omega
  have behind_not : ∀ j, j < ops.size → (j ∈ T.getD i [] ∨ i ∈ T.getD j []) → i ≤ j → listed.getD j false = false := fun j hj hor hle => by
    cases hl : listed.getD j false with
    | false => rfl
    | true =>
      rcases hor with h1 | h1
      · have := hT.lt i hi j h1; omega
      · have := I.down j hl i h1; rw [hun] at this; cases this
  -- memory
  have hmem : cls2 X f ops.toList T i ≠ 0 → R.L m = R.L i ∧ R.H m = R.H i := fun hc => by
    rcases Nat.le_total m i with hmi | hmi
    · obtain ⟨h1, h2⟩ := R.const hR hmi (by omega) fun j hj hji hc2 => by
        have h1 := I.hi j hj (by omega) hc2
        have h2 := ahead_done j ((hT.cl j i (by omega) hi (by omega) hc2 hc).symm) hji
        rw [h1] at h2; cases h2
      exact ⟨h1.symm, h2.symm⟩
    · exact R.const hR hmi I.mle fun j hj hjm hc2 => by
        have h1 := I.lo j hjm hc2
        by_cases hji : j = i
        · subst hji; rw [hun] at h1; cases h1
        · have h2 := behind_not j (by have := I.mle; omega) ((hT.cl j i (by have := I.mle; omega) hi hji hc2 hc).symm) hj
          rw [h1] at h2; cases h2
  -- the frame
  have hlook : ∀ t ∈ looksOf ops.toList o, ∀ e, (R.E i).find t = some e → ∃ v, a.tmps[t]? = some v ∧ RepE g e v := by
    intro t ht e he
    obtain ⟨h1, h2⟩ := R.env_at hT hR (t := t) (i := i) (by omega)
    by_cases hex : ∃ mm oo, mm < i ∧ ops[mm]? = some oo ∧ oo.dst = some t
    · obtain ⟨mm, oo, h3, h4, h5⟩ := hex
      rw [h1 mm oo h3 h4 h5] at he
      cases he
      exact I.vals mm oo t h4 (ahead_done mm ((hT.dst i mm o oo t ho h4 (by omega) h5).2 ht) h3) h5
    · have hnone : ∀ mm oo, mm < i → ops[mm]? = some oo → oo.dst ≠ some t := fun mm oo h3 h4 h5 => hex ⟨mm, oo, h3, h4, h5⟩
      rw [h2 hnone] at he
      refine I.init t e (fun j oj hoj hl hd => ?_) he
      have hji : j ≠ i := by rintro rfl; rw [hun] at hl; cases hl
      have := behind_not j (Array.getElem?_eq_some_iff.1 hoj).1 ((hT.dst i j o oj t ho hoj (Ne.symm hji) hd).2 ht) (Nat.le_of_not_lt fun hlt => hnone j oj hlt hoj hd)
      rw [hl] at this; cases this
  have hentry : ∀ x ∈ R.G i, ∃ c oc, c < i ∧ R.G (c + 1) = x :: R.G c ∧ ops[c]? = some oc ∧ oc.dst = some x.i ∧ ops.toList.any (fun p => p.dst == some x.b) = false := by
    intro x hx
    obtain ⟨c, h1, h2⟩ := R.entry hR hG0 (i := i) (by omega) x hx
    have hoc : ops[c]? = some ops[c] := Array.getElem?_eq_getElem (by omega)
    rcases (hR c _ hoc).adds with h3 | ⟨y, j, h3, h4, h5, _⟩
    · rw [h2] at h3; exact absurd (congrArg List.length h3) (by simp)
    · rw [h2] at h3; cases h3; exact ⟨c, _, h1, h2, hoc, h4, h5⟩
  have hbase : ∀ b, ops.toList.any (fun p => p.dst == some b) = false → ∀ e, (R.E i).find b = some e → ∃ v, a.tmps[b]? = some v ∧ RepE g e v := by
    intro b hb e he
    have hnw : ∀ (j : Nat) (oj : Oper), ops[j]? = some oj → oj.dst ≠ some b := fun j oj hoj hd => by
      have hm : oj ∈ ops.toList := List.mem_of_getElem? (i := j) (by simpa using hoj)
      have h2 : ops.toList.any (fun p => p.dst == some b) = true := List.any_eq_true.2 ⟨oj, hm, by simp [hd]⟩
      rw [hb] at h2; cases h2
    obtain ⟨_, h2⟩ := R.env_at hT hR (t := b) (i := i) (by omega)
    rw [h2 fun mm oo _ h4 => hnw mm oo h4] at he
    exact I.init b e (fun j oj hoj _ => hnw j oj hoj) he
  let p : Nat → Bool := fun t => (looksOf ops.toList o).contains t || ((R.G i).map (·.b)).contains t
  let Gr : List GE := match addrOp o.op with
    | some t => (R.G i).filter fun x => x.i == t
    | none => []
  have hAg : Agree ops.toList o (R.G i) (R.E i) Gr ((R.E i).filter fun q => p q.1) := by
    refine ⟨fun t ht => ?_, fun t ht => ?_, fun t x ht hx => ?_⟩
    · rw [find_filter, if_pos]; simp only [p, Bool.or_eq_true]; exact .inl (by simpa using ht)
    · show findG (match addrOp o.op with | some t => (R.G i).filter fun (x : GE) => x.i == t | none => []) t = _
      rw [ht]; exact findG_filter
    · rw [find_filter, if_pos]; simp only [p, Bool.or_eq_true]; exact .inr (by simpa using ⟨x, (findG_mem hx).1, rfl⟩)
  have hRelE : RelE g ((R.E i).filter fun q => p q.1) a.tmps := by
    intro t e he
    rw [find_filter] at he
    split at he
    · rename_i hp
      simp only [p, Bool.or_eq_true] at hp
      rcases hp with hp | hp
      · exact hlook t (by simpa using hp) e he
      · have : ∃ x ∈ R.G i, x.b = t := by simpa using hp
        obtain ⟨x, hx, rfl⟩ := this
        obtain ⟨_, _, _, _, _, _, h5⟩ := hentry x hx
        exact hbase x.b h5 e he
    · cases he
  have hRelG : RelG Gr a.tmps := by
    intro x hx
    cases ha : addrOp o.op with
    | none =>
      have : Gr = [] := by show (match addrOp o.op with | some t => (R.G i).filter fun (x : GE) => x.i == t | none => []) = []; rw [ha]
      rw [this] at hx; cases hx
    | some t =>
      have hGr : Gr = (R.G i).filter fun (x : GE) => x.i == t := by show (match addrOp o.op with | some t => (R.G i).filter fun (x : GE) => x.i == t | none => []) = _; rw [ha]
      rw [hGr, List.mem_filter] at hx
      obtain ⟨hx1, hx2⟩ := hx
      have hxt : x.i = t := by simpa using hx2
      obtain ⟨c, oc, h1, h2, h3, h4, _⟩ := hentry x hx1
      have hor := (hT.dst i c o oc x.i ho h3 (by omega) h4).2 (by rw [hxt]; exact slots_looks (addr_slot ha))
      exact I.ents c x (by omega) (ahead_done c hor h1) h2
  have hq : mustRest X f ops.toList T i = true → isCall o = true := fun h => by
    have ho' : ops.toList[i]? = some o := by simpa using ho
    simp only [mustRest, ho', Bool.and_eq_true] at h
    exact h.1
  have hset : ∀ j, (listed.setIfInBounds i true).getD j false = if j = i then true else listed.getD j false := fun j => by
    have hsz := I.sz
    by_cases hji : j = i
    · subst hji; simp [hsz, hi]
    · rw [if_neg hji]; simp [Array.getElem?_setIfInBounds, Ne.symm hji]
  -- what follows
  have fin : ∀ g' v (w' : World) m', Ext g g' → (∀ j y, g.l j = some y → g'.l j = some y) → RepE g' (R.e i) v → (∀ x, R.G (i + 1) = x :: R.G i → EntryOk x (a.put o.dst v).tmps) →
      Rel g' (R.L m') (R.H m') w'.heap → StepW w w' (R.H m) (R.H m') → m' ≤ ops.size → (∀ j, j < m' → cls2 X f ops.toList T j = 2 → (listed.setIfInBounds i true).getD j false = true) →
      (∀ j, m' ≤ j → j < ops.size → cls2 X f ops.toList T j = 2 → (listed.setIfInBounds i true).getD j false = false) → next (a.put o.dst v) w' := by
    intro g' v w' m' he hl hr hen hrel hst hm' hlo hhi
    refine hn g' _ w' m' ⟨by simpa using I.sz, fun j hj k hk => ?_, fun j oj d hoj hj hd => ?_, fun t e ht hE => ?_, fun j x hj hjl hx => ?_, hrel, hlo, hhi, I.ext.trans he, I.stp.trans hst, by rw [put_size]; exact I.tsz, by rw [put_defers]; exact I.dfr, hm'⟩
    · rw [hset] at hj ⊢
      split
      · rfl
      · split at hj
        · rename_i hji; subst hji; exact hrdy k hk
        · exact I.down j hj k hk
    · rw [hset] at hj
      by_cases hji : j = i
      · subst hji
        rw [ho] at hoj
        cases hoj
        have hlt : d < a.tmps.size := by rw [I.tsz]; exact hsm _ _ _ ho hd
        exact ⟨v, by rw [hd]; simp [Act.put, hlt], hr⟩
      · rw [if_neg hji] at hj
        obtain ⟨u, h1, h2⟩ := I.vals j oj d hoj hj hd
        exact ⟨u, by rw [put_get ((hT.dst i j o oj d ho hoj (Ne.symm hji) hd).1)]; exact h1, h2.mono he hl⟩
    · obtain ⟨u, h1, h2⟩ := I.init t e (fun j oj hoj hj => ht j oj hoj (by rw [hset]; split <;> first | rfl | exact hj)) hE
      exact ⟨u, by rw [put_get (ht i o ho (by rw [hset, if_pos rfl]))]; exact h1, h2.mono he hl⟩
    · rw [hset] at hjl
      by_cases hji : j = i
      · subst hji; exact hen x hx
      · rw [if_neg hji] at hjl
        have hoj : ops[j]? = some ops[j] := Array.getElem?_eq_getElem hj
        rcases (hR j _ hoj).adds with h3 | ⟨y, jg, h3, h4, h5, h6, h7, _⟩
        · rw [hx] at h3; exact absurd (congrArg List.length h3) (by simp)
        · rw [hx] at h3
          cases h3
          have hnb : o.dst ≠ some x.b := fun hd => by
            have hm : o ∈ ops.toList := List.mem_of_getElem? (i := i) (by simpa using ho)
            have h2 : ops.toList.any (fun p => p.dst == some x.b) = true := List.any_eq_true.2 ⟨o, hm, by simp [hd]⟩
            rw [h5] at h2; cases h2
          have hni : o.dst ≠ some x.i := (hT.dst i j o _ x.i ho hoj (Ne.symm hji) h4).1
          have hns : o.dst ≠ some x.s := fun hd => by
            cases hog : ops.toList[jg]? with
            | none => rw [hog] at h7; cases h7
            | some og =>
              rw [hog] at h7
              have hog' : ops[jg]? = some og := by simpa using hog
              have hdg : og.dst = some x.s := by simpa using h7
              by_cases hgi : jg = i
              · subst hgi
                have := I.down j hjl jg (hT.gd j _ jg x.w hoj h6)
                rw [hun] at this; cases this
              · exact (hT.dst i jg o og x.s ho hog' (Ne.symm hgi) hdg).1 hd
          intro hs
          rw [put_get hns] at hs
          obtain ⟨cb, b1, b2⟩ := I.ents j x hj hjl hx hs
          exact ⟨cb, by rw [put_get hnb]; exact b1, by rw [put_get hni]; exact b2⟩
  have same : cls2 X f ops.toList T i ≠ 2 → ∀ g' v (w' : World), Ext g g' → (∀ j y, g.l j = some y → g'.l j = some y) → RepE g' (R.e i) v → (∀ x, R.G (i + 1) = x :: R.G i → EntryOk x (a.put o.dst v).tmps) →
      Rel g' (R.L m) (R.H m) w'.heap → Keep w w' → next (a.put o.dst v) w' := fun hc g' v w' he hl hr hen hrel hkp =>
    fin g' v w' m he hl hr hen hrel ⟨.refl _, hkp⟩ I.mle (fun j hj hc2 => by rw [hset]; split <;> first | rfl | exact I.lo j hj hc2) fun j hj hjn hc2 => by
      rw [hset, if_neg (fun e => hc (by rw [← e]; exact hc2))]; exact I.hi j hj hjn hc2
  have hdd : ∀ d, o.dst = some d → d < a.tmps.size := fun d hd => by rw [I.tsz]; exact hsm _ _ _ ho hd
  by_cases hc0 : cls2 X f ops.toList T i = 0
  · have hm0 : mustRest X f ops.toList T i = false := by
      cases hmr : mustRest X f ops.toList T i with
      | false => rfl
      | true => unfold cls2 at hc0; rw [if_pos hmr] at hc0; cases hc0
    have hcl : cls X f o = 0 := by
      unfold cls2 at hc0
      rw [hm0] at hc0
      have ho' : ops.toList[i]? = some o := by simpa using ho
      simpa [clsAt, ho'] using hc0
    refine stepD_do hX hΓ hq hA.step hAg (.inl ⟨hm0, hcl, rfl, rfl⟩) I.mem hRelE hRelG (hGl.mono I.ext) hdd fun g' v w' he hl hst hR' hr hen => ?_
    exact same (by omega) g' v w' he hl hr hen hR' hst.k
  · obtain ⟨hL, hH⟩ := hmem hc0
    have hM : Rel g (R.L i) (R.H i) w.heap := by rw [← hL, ← hH]; exact I.mem
    refine stepD_do hX hΓ hq hA.step hAg (.inr ⟨rfl, rfl, rfl, rfl⟩) hM hRelE hRelG (hGl.mono I.ext) hdd fun g' v w' he hl hst hR' hr hen => ?_
    by_cases hc2 : cls2 X f ops.toList T i = 2
    · refine fin g' v w' (i + 1) he hl hr hen hR' (by rw [hH]; exact hst) hi (fun j hj hcj => ?_) fun j hj hjn hcj => ?_
      · rw [hset]
        split
        · rfl
        · rename_i hji
          exact ahead_done j (hT.cl i j hi (by omega) (Ne.symm hji) hc2 (by omega)) (by omega)
      · rw [hset, if_neg (by omega)]
        exact behind_not j hjn (hT.cl i j hi hjn (by omega) hc2 (by omega)) (by omega)
    · obtain ⟨h1, h2⟩ := hA.keep (cls2_keep ho hc2)
      exact same hc2 g' v w' he hl hr hen (by rw [hL, hH, ← h1, ← h2]; exact hR') hst.k

theorem all_done {ops : Array Oper} {T : List (List Nat)} (hT : OkT X f ops T) {listed : Array Bool} (hsz : listed.size = ops.size) (h : Region.ready .any ops listed = []) : ∀ i, i < ops.size → listed.getD i false = true := by
  intro i
  induction i using Nat.strongRecOn with
  | _ i ih =>
    intro hi
    refine Classical.byContradiction fun hne => ?_
    have hun : listed.getD i false = false := by simpa using hne
    have ho : ops[i]? = some ops[i] := Array.getElem?_eq_getElem hi
    have : i ∈ Region.ready .any ops listed := mem_ready.2 ⟨by simpa [hsz, hi] using hun, _, ho, fun e he hb => by
      have h1 : e.on ∈ T.getD i [] := (hT.get i _ ho e.on).2 ⟨e, by simpa using he, hb, .inl rfl⟩
      have h2 := hT.lt i hi _ h1
      exact ih e.on h2 (by omega)⟩
    rw [h] at this
    cases this
theorem count_set {listed : Array Bool} {n i : Nat} (hsz : listed.size = n) (hi : i < n) (hun : listed.getD i false = false) {fuel : Nat} (h : (List.range n).countP (fun j => !listed.getD j false) ≤ fuel + 1) :
    (List.range n).countP (fun j => !(listed.setIfInBounds i true).getD j false) ≤ fuel := by
  have hset : ∀ j, (listed.setIfInBounds i true).getD j false = if j = i then true else listed.getD j false := fun j => by
    by_cases hji : j = i
    · subst hji; simp [hsz, hi]
    · rw [if_neg hji]; simp [Array.getElem?_setIfInBounds, Ne.symm hji]
  have key : ∀ l : List Nat, l.Nodup → i ∈ l → l.countP (fun j => !(listed.setIfInBounds i true).getD j false) + 1 = l.countP (fun j => !listed.getD j false) := by
    intro l
    induction l with
    | nil => intro _ h; cases h
    | cons x l ih =>
      intro hnd hm
      rw [List.nodup_cons] at hnd
      rw [List.countP_cons, List.countP_cons, hset]
      by_cases hx : x = i
      · subst hx
        have : l.countP (fun j => !(listed.setIfInBounds x true).getD j false) = l.countP (fun j => !listed.getD j false) := List.countP_congr fun j hj => by
          rw [hset, if_neg (fun e => hnd.1 (by rw [← e]; exact hj))]
        simp only [this, hun, if_true, Bool.not_true, Bool.not_false, Bool.false_eq_true, if_false, Nat.add_zero]
      · have h1 := ih hnd.2 ((List.mem_cons.1 hm).resolve_left (fun e => hx e.symm))
        rw [if_neg hx]
        omega
  have := key (List.range n) List.nodup_range (List.mem_range.2 hi)
  omega

theorem draw_sound (hX : X.Ok) (hΓ : Good X Γ) {ops : Array Oper} {n : Nat} {r : β} {E : Env} {L : Locs} {H : Heap} {k : Env → Locs → Heap → Out β} (hok : drawOk X f ops.toList (predsT ops.toList []) = true)
    (h : evDr X f Γ ops.toList (predsT ops.toList []) 0 ops.toList [] E L H k = .ok r) {g : Gh} {a : Act} {w : World} (hR : Rel g L H w.heap) (hE : RelE g E a.tmps) (hG : GlobOk X g) (hs : ops.toList.all (opSmall n) = true) (hn : n ≤ a.tmps.size)
    {Q : Exit → Act → World → Prop} (hk : ∀ E' L' H' g' (a' : Act) w', k E' L' H' = .ok r → Ext g g' → StepW w w' H H' → Rel g' L' H' w'.heap → RelE g' E' a'.tmps → a'.tmps.size = a.tmps.size → a'.defers = a.defers → Q .normal a' w') :
    wpAny X.P .any ops Q ops.size (Array.replicate ops.size false) a w := by
  have hT := okT_of hok
  generalize predsT ops.toList [] = T at hT h
  obtain ⟨R, rfl, rfl, rfl, hG0, hfin, hAt⟩ : ∃ R : Run X f Γ ops.toList T, R.E 0 = E ∧ R.L 0 = L ∧ R.H 0 = H ∧ R.G 0 = [] ∧ k (R.E ops.size) (R.L ops.size) (R.H ops.size) = .ok r ∧ ∀ i o, ops[i]? = some o → R.At i o := by
    obtain ⟨R, q1, q2, q3, q4, q5, q6⟩ := evDr_run h
    refine ⟨R, q2, q3, q4, q1, by simpa using q5, fun i o ho => ?_⟩
    have := q6 i o (by simpa using ho)
    simpa using this
  have hsm : ∀ (i : Nat) (o : Oper) (d : Nat), ops[i]? = some o → o.dst = some d → d < a.tmps.size := fun i o d ho hd => by
    have hm : o ∈ ops.toList := List.mem_of_getElem? (i := i) (by simpa using ho)
    have h1 := List.all_eq_true.1 hs o hm
    unfold opSmall at h1
    rw [hd] at h1
    exact Nat.lt_of_lt_of_le (by simpa using h1) hn
  have done : ∀ {listed : Array Bool} {g' : Gh} {a' : Act} {w' : World} {m : Nat}, Inv ops T R g w a listed g' a' w' m → Region.ready .any ops listed = [] → Q .normal a' w' := by
    intro listed g' a' w' m I hr
    have hall := all_done hT I.sz hr
    obtain ⟨h1, h2⟩ := R.const hAt I.mle (Nat.le_refl _) fun i hi hin hc => by
      have := I.hi i hi hin hc
      rw [hall i hin] at this; cases this
    refine hk _ _ _ g' a' w' hfin I.ext (by rw [h2]; exact I.stp) (by rw [h1, h2]; exact I.mem) (fun t e he => ?_) I.tsz I.dfr
    obtain ⟨h3, h4⟩ := R.env_at hT hAt (t := t) (i := ops.size) (Nat.le_refl _)
    by_cases hex : ∃ mm oo, mm < ops.size ∧ ops[mm]? = some oo ∧ oo.dst = some t
    · obtain ⟨mm, oo, q1, q2, q3⟩ := hex
      rw [h3 mm oo q1 q2 q3] at he
      cases he
      exact I.vals mm oo t q2 (hall mm q1) q3
    · have hnone : ∀ mm oo, mm < ops.size → ops[mm]? = some oo → oo.dst ≠ some t := fun mm oo q1 q2 q3 => hex ⟨mm, oo, q1, q2, q3⟩
      rw [h4 hnone] at he
      exact I.init t e (fun i o ho _ => hnone i o (Array.getElem?_eq_some_iff.1 ho).1 ho) he
  have main : ∀ (fuel : Nat) (listed : Array Bool) (g' : Gh) (a' : Act) (w' : World) (m : Nat), Inv ops T R g w a listed g' a' w' m → (List.range ops.size).countP (fun j => !listed.getD j false) ≤ fuel → wpAny X.P .any ops Q fuel listed a' w' := by
    intro fuel
    induction fuel with
    | zero =>
      intro listed g' a' w' m I hc
      have hr : Region.ready .any ops listed = [] := by
        refine List.eq_nil_iff_forall_not_mem.2 fun i hi => ?_
        obtain ⟨hun, o, ho, _⟩ := mem_ready.1 hi
        have hin : i < ops.size := (Array.getElem?_eq_some_iff.1 ho).1
        have h0 := List.countP_eq_zero.1 (Nat.le_zero.1 hc) i (List.mem_range.2 hin)
        simp [I.sz, hin] at hun h0
        rw [hun] at h0; cases h0
      exact ⟨hr, done I hr⟩
    | succ fuel ih =>
      intro listed g' a' w' m I hc
      refine ⟨done I, fun i hi => ?_⟩
      obtain ⟨hun, o, ho, hall⟩ := mem_ready.1 hi
      have hin : i < ops.size := (Array.getElem?_eq_some_iff.1 ho).1
      have hun' : listed.getD i false = false := by simpa [I.sz, hin] using hun
      have hrdy : ∀ j ∈ T.getD i [], listed.getD j false = true := fun j hj => by
        obtain ⟨e, h1, h2, h3⟩ := (hT.get i o ho j).1 hj
        have h4 := hall e (by simpa using h1) h2
        rcases h3 with rfl | ⟨_, h3⟩
        · exact h4
        · exact I.down _ h4 j h3
      have := inv_step hX hΓ hT hAt hG0 hG hsm I ho hun' hrdy (Q := Q) (next := wpAny X.P .any ops Q fuel (listed.setIfInBounds i true)) fun g2 a2 w2 m2 I2 => ih _ g2 a2 w2 m2 I2 (count_set I.sz hin hun' hc)
      unfold wpOp
      rw [ho]
      simp only
      split
      · rename_i hw; rw [if_pos hw] at this; exact .inl this
      · rename_i hw; rw [if_neg hw] at this; exact this
  refine main ops.size _ g a w 0 ⟨by simp, fun i hi => ?_, fun i o d _ hi => ?_, fun t e _ he => hE t e he, fun i x _ hi => ?_, hR, fun i hi => by omega, fun i _ _ _ => ?_, .refl g, .refl _, rfl, rfl, Nat.zero_le _⟩ ?_
  all_goals first
    | (exfalso; simp [Array.getElem?_replicate] at hi; split at hi <;> simp at hi; done)
    | (simp [Array.getElem?_replicate]; split <;> rfl; done)
    | exact Nat.le_trans List.countP_le_length (by simp)
end
end Go.Proofs.YtnhblghplohonaaGreatDoor.Ab
