/- Rules to reckon with the abstract machine's operations. -/
import Derived.Test.YtnhblghplohonaaGreatDoorAbX
set_option linter.unusedSimpArgs false
set_option linter.unusedVariables false
namespace Go.Proofs.YtnhblghplohonaaGreatDoor.Ab
open Go

section
variable {α β : Type}
@[simp] theorem bind_ok (a : α) (f : α → Out β) : (Out.ok a).bind f = f a := rfl
@[simp] theorem bind_no (f : α → Out β) : (Out.no : Out α).bind f = .no := rfl
@[simp] theorem onO_some (a : α) (f : α → Out β) : onO (some a) f = f a := rfl
@[simp] theorem onO_none (f : α → Out β) : onO none f = .no := rfl
@[simp] theorem cond_tt (a b : Out β) : condEv (.bool true) a b = a := rfl
@[simp] theorem cond_ff (a b : Out β) : condEv (.bool false) a b = b := rfl
theorem cond_b (c : Bool) (a b : Out β) : condEv (.bool c) a b = if c = true then a else b := by cases c <;> rfl
@[simp] theorem guard_tt (a b : Out β) : guardEv (some (.val (.bool true))) true a b = a := rfl
@[simp] theorem guard_tf (a b : Out β) : guardEv (some (.val (.bool true))) false a b = b := rfl
@[simp] theorem guard_ft (a b : Out β) : guardEv (some (.val (.bool false))) true a b = b := rfl
@[simp] theorem guard_ff (a b : Out β) : guardEv (some (.val (.bool false))) false a b = a := rfl
@[simp] theorem guard_u (w : Bool) (a b : Out β) : guardEv (some (.val undefA)) w a b = b := rfl
theorem guard_t (c : Bool) (a b : Out β) : guardEv (some (.val (.bool c))) true a b = if c = true then a else b := by cases c <;> rfl
theorem guard_f (c : Bool) (a b : Out β) : guardEv (some (.val (.bool c))) false a b = if c = true then b else a := by cases c <;> rfl
@[simp] theorem pick_tt (a b : AV) : M.pick (.bool true) a b = .ok a := rfl
@[simp] theorem pick_ff (a b : AV) : M.pick (.bool false) a b = .ok b := rfl
theorem pick_b (c : Bool) (a b : AV) : M.pick (.bool c) a b = .ok (if c = true then a else b) := by cases c <;> rfl
@[simp] theorem pick_bb (c a b : Bool) : M.pick (.bool c) (.bool a) (.bool b) = .ok (.bool (cond c a b)) := by cases c <;> rfl
@[simp] theorem start_n (H : Heap) : H.start.n = H.n := rfl
@[simp] theorem start_low (H : Heap) : H.start.low = H.n := rfl
@[simp] theorem start_get (H : Heap) (b : Nat) : H.start.get b = H.get b := rfl
@[simp] theorem start_cells (H : Heap) (b : Nat) : H.start.cells b = H.cells b := rfl
end
section
variable (P : Program) (t : TypeId) (x y : Operand) (k : IntKind) (a b : Int)
@[simp] theorem bin_eql : M.bin P .eql t x y (.int k a) (.int k b) = .ok (.bool (a == b)) := by cases k <;> rfl
@[simp] theorem bin_neq : M.bin P .neq t x y (.int k a) (.int k b) = .ok (.bool (a != b)) := by cases k <;> rfl
@[simp] theorem bin_lss : M.bin P .lss t x y (.int k a) (.int k b) = .ok (.bool (decide (a < b))) := by cases k <;> rfl
@[simp] theorem bin_leq : M.bin P .leq t x y (.int k a) (.int k b) = .ok (.bool (decide (a ≤ b))) := by cases k <;> rfl
@[simp] theorem bin_gtr : M.bin P .gtr t x y (.int k a) (.int k b) = .ok (.bool (decide (a > b))) := by cases k <;> rfl
@[simp] theorem bin_geq : M.bin P .geq t x y (.int k a) (.int k b) = .ok (.bool (decide (a ≥ b))) := by cases k <;> rfl
@[simp] theorem bin_add : M.bin P .add t x y (.int k a) (.int k b) = .ok (.int k (k.wrap (a + b))) := by cases k <;> rfl
@[simp] theorem bin_sub : M.bin P .sub t x y (.int k a) (.int k b) = .ok (.int k (k.wrap (a - b))) := by cases k <;> rfl
@[simp] theorem bin_mul : M.bin P .mul t x y (.int k a) (.int k b) = .ok (.int k (k.wrap (a * b))) := by cases k <;> rfl
@[simp] theorem bin_seql (s u : List UInt8) : M.bin P .eql t x y (.str s) (.str u) = .ok (.bool (s == u)) := rfl
@[simp] theorem bin_sneq (s u : List UInt8) : M.bin P .neq t x y (.str s) (.str u) = .ok (.bool (!(s == u))) := rfl
theorem bin_sadd {s u : List UInt8} (h : s.length + u.length ≤ M.most) : M.bin P .add t x y (.str s) (.str u) = .ok (.str (s ++ u)) := by simp only [M.bin, if_pos h]
@[simp] theorem un_not (c : Bool) : M.un .not (.bool c) = .ok (.bool (!c)) := rfl
end
@[simp] theorem len_str (l : List UInt8) : M.len true (.str l) = .ok (.int .i64 l.length) := rfl
@[simp] theorem len_isl (s : Nat) (l : List AV) : M.len false (.isl s l) = .ok (.int .i64 l.length) := rfl
@[simp] theorem len_sl (b o n s : Nat) : M.len false (.sl b o n s) = .ok (.int .i64 n) := rfl
@[simp] theorem len_nil : M.len false nilSlice = .ok (.int .i64 0) := rfl
@[simp] theorem nil_ref (b o : Nat) : M.nilCheck (.ref b o) = .ok (.ref b o) := rfl
@[simp] theorem nil_iptr (l : List AV) : M.nilCheck (.iptr l) = .ok (.iptr l) := rfl
@[simp] theorem fa_ref (n b o : Nat) : M.fieldAddr n (.ref b o) = .ok (.ref b (o + n)) := rfl
@[simp] theorem fa_iptr (n : Nat) (l : List AV) : M.fieldAddr n (.iptr l) = .ok (.iptr (l.drop n)) := rfl
@[simp] theorem clean_int (n : Nat) (k : IntKind) (a : Int) : clean n (.int k a) = true := rfl
@[simp] theorem clean_bool (n : Nat) (a : Bool) : clean n (.bool a) = true := rfl
@[simp] theorem clean_str (n : Nat) (a : List UInt8) : clean n (.str a) = true := rfl
@[simp] theorem clean_tup0 (n : Nat) : clean n (.tup []) = true := rfl
theorem gc_quiet {v : AV} {H H' : Heap} (h1 : H.n ≤ H'.low) (h2 : clean H.n v = true) : gc v H H' = (v, H) := by unfold gc; rw [if_pos ⟨h1, h2⟩]
theorem gc_start {v : AV} {H : Heap} (h2 : clean H.n v = true) : gc v H H.start = (v, H) := gc_quiet (Nat.le_refl _) h2
@[simp] theorem gc_int (k : IntKind) (a : Int) (H : Heap) : gc (.int k a) H H.start = (.int k a, H) := gc_start rfl
@[simp] theorem gc_bool (a : Bool) (H : Heap) : gc (.bool a) H H.start = (.bool a, H) := gc_start rfl
@[simp] theorem gc_str (a : List UInt8) (H : Heap) : gc (.str a) H H.start = (.str a, H) := gc_start rfl
@[simp] theorem gc_tup0 (H : Heap) : gc (.tup []) H H.start = (.tup [], H) := gc_start rfl
end Go.Proofs.YtnhblghplohonaaGreatDoor.Ab
