/- Rules that turn guarded operations into plain bools. -/
import Derived.Test.YtnhblghplohonaaGreatDoorAbT
set_option linter.unusedSimpArgs false
set_option linter.unusedVariables false
namespace Go.Proofs.YtnhblghplohonaaGreatDoor.Ab
open Go
/-- A bool that simp leaves whole. -/
def T (b : Bool) : Prop := b = true
instance (b : Bool) : Decidable (T b) := inferInstanceAs (Decidable (b = true))
@[simp] theorem T_true : T true = True := by simp [T]
@[simp] theorem T_false : T false = False := by simp [T]
theorem T_iff (b : Bool) : T b ↔ b = true := Iff.rfl
@[simp] theorem load_one (x : AV) (H : Heap) : M.load false 1 (.iptr [x]) H = .ok x := rfl
@[simp] theorem ldc_one (x : AV) : M.ldc false 1 [x] 0 = .ok x := rfl
section
variable {α β : Type}
@[congr] theorem ite_cg {c c' : Prop} [Decidable c] [Decidable c'] {x y u v : α} (h : c = c') (h1 : c' → x = u) (h2 : ¬ c' → y = v) : (if c then x else y) = (if c' then u else v) := by
  subst h
  by_cases hc : c
  · rw [if_pos hc, if_pos hc]; exact h1 hc
  · rw [if_neg hc, if_neg hc]; exact h2 hc
theorem ite_ok (p : Prop) [Decidable p] (a b : α) : (if p then Out.ok a else Out.ok b) = Out.ok (if p then a else b) := by by_cases h : p <;> simp [h]
theorem ite_pair (p : Prop) [Decidable p] (x y : α) (H : β) : (if p then (x, H) else (y, H)) = (if p then x else y, H) := by by_cases h : p <;> simp [h]
theorem guard_t' (c : Bool) (a b : Out β) : guardEv (some (.val (.bool c))) true a b = if T c then a else b := by cases c <;> simp
theorem guard_f' (c : Bool) (a b : Out β) : guardEv (some (.val (.bool c))) false a b = if T c then b else a := by cases c <;> simp
theorem cond_b' (c : Bool) (a b : Out β) : condEv (.bool c) a b = if T c then a else b := by cases c <;> simp
theorem pick_and {b c : Bool} {u : AV} : M.pick (.bool b) (if T b then .bool c else u) (.bool false) = .ok (.bool (b && c)) := by cases b <;> simp
theorem pick_or {b c : Bool} {u : AV} : M.pick (.bool b) (.bool true) (if T b then u else .bool c) = .ok (.bool (b || c)) := by cases b <;> simp
theorem guard_it (p b : Bool) (x y : Out β) : guardEv (some (.val (if T p then .bool b else undefA))) true x y = if T p ∧ T b then x else y := by cases p <;> cases b <;> simp
theorem guard_if (p b : Bool) (x y : Out β) : guardEv (some (.val (if T p then .bool b else undefA))) false x y = if T p ∧ ¬ T b then x else y := by cases p <;> cases b <;> simp
theorem guard_et (p b : Bool) (x y : Out β) : guardEv (some (.val (if T p then undefA else .bool b))) true x y = if ¬ T p ∧ T b then x else y := by cases p <;> cases b <;> simp
theorem guard_ef (p b : Bool) (x y : Out β) : guardEv (some (.val (if T p then undefA else .bool b))) false x y = if ¬ T p ∧ ¬ T b then x else y := by cases p <;> cases b <;> simp
theorem ite_bool (p : Bool) (b c : Bool) : (if T p then AV.bool b else .bool c) = .bool (if p then b else c) := by cases p <;> simp
end

/- ### Results that nobody writes any more -/
section
variable {get : Nat → Option (List AV)} {n k : Nat}
theorem fz_clean {x : AV} (h : clean n x = true) : fz get n (k + 1) x = some x := by unfold fz; rw [if_pos h]
theorem fz_ref {b off : Nat} {cs : List AV} (hb : n ≤ b) (hc : get b = some cs) : fz get n (k + 1) (.ref b off) = (optAll (fz get n k) (cs.drop off)).map .iptr := by
  rw [fz, if_neg (by simp [clean]; omega)]
  simp only [hc, if_pos hb]
theorem fz_sl {b off len sz : Nat} {cs : List AV} (hb : n ≤ b) (hc : get b = some cs) (hl : off + len * sz ≤ cs.length) : fz get n (k + 1) (.sl b off len sz) = (optAll (fz get n k) ((cs.drop off).take (len * sz))).map fun l => .isl sz (chunks (sz != 1) sz len l) := by
  rw [fz, if_neg (by simp [clean]; omega)]
  simp only [hc, if_pos (And.intro hb hl)]
theorem optAll_id {f : AV → Option AV} : ∀ {l : List AV}, (∀ x ∈ l, f x = some x) → optAll f l = some l
  | [], _ => rfl
  | x :: l, h => by rw [optAll, h x (List.mem_cons_self ..), optAll_id fun y hy => h y (List.mem_cons_of_mem _ hy)]
theorem fz_agg {cs : List AV} (h : clean n (.agg cs) = false) : fz get n (k + 1) (.agg cs) = (optAll (fz get n k) cs).map .agg := by
  rw [fz, if_neg (by rw [h]; decide)]
theorem fz_tup {cs : List AV} (h : clean n (.tup cs) = false) : fz get n (k + 1) (.tup cs) = (optAll (fz get n k) cs).map .tup := by
  rw [fz, if_neg (by rw [h]; decide)]
theorem gcz_some {v v' : AV} {H H' : Heap} (h : H.n ≤ H'.low) (h' : fz H'.cells H.n 32 v = some v') : gcz v H H' = (v', H) := by
  unfold gcz; rw [if_pos h, h']
theorem gcz_fn1 {f : Fn} {c : AV} {H H' : Heap} (h : H.n ≤ H'.low) (hc : H'.cells H.n = some [c]) (hn : clean H.n c = true) : gcz (.fn f [] [.ref H.n 0]) H H' = (.fn f [] [.iptr [c]], H) := by
  refine gcz_some h ?_
  rw [fz, if_neg (by simp [clean, cleanL])]
  simp only [optAll, fz_ref (Nat.le_refl H.n) hc, List.drop_zero, fz_clean hn, Option.map_some]
end
end Go.Proofs.YtnhblghplohonaaGreatDoor.Ab
