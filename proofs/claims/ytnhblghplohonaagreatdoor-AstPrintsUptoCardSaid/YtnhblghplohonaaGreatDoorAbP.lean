/- The machine of this place: what is told of the package's variables, the functions that are answered by contracts, calls. -/
import Derived.Test.YtnhblghplohonaaGreatDoorAbU
import Derived.Test.YtnhblghplohonaaGreatDoorAbY
import Derived.Lib.IndexMore
import Derived.Lib.ItoaNum
set_option linter.unusedSimpArgs false
set_option linter.unusedVariables false
namespace Go.Proofs.YtnhblghplohonaaGreatDoor.Ab
open Go

/-- strings.Contains. -/
def containsP : List AV → Heap → Out Ans
  | [.str s, .str t], H => if s.length < 4294967281 then .ok (.bool (Lib.contains s t), H) else .no
  | _, _ => .no
/-- strings.Repeat of none or one. -/
def repeatP : List AV → Heap → Out Ans
  | [.str s, .int .i64 n], H => if n = 0 then .ok (.str [], H) else if n = 1 ∧ s.length < 1099511627776 then .ok (.str s, H) else .no
  | _, _ => .no
/-- strconv.FormatUint. -/
def formatUintP : List AV → Heap → Out Ans
  | [.int .u64 n, .int .i64 b], H => if b = 10 ∧ 0 ≤ n ∧ n < 18446744073709551616 then .ok (.str (Lib.decDigits n.toNat), H) else .no
  | _, _ => .no
/-- strings.IndexByte. -/
def indexByteP : List AV → Heap → Out Ans
  | [.str s, .int .u8 c], H => .ok (.int .i64 (Lib.indexByte s c.toNat.toUInt8), H)
  | _, _ => .no
/-- slices.Insert of one byte within a list. -/
def insertP : List AV → Heap → Out Ans
  | [.sl b off n 1, .int .i64 i, .sl b' off' 1 1], H => match H.get b, H.get b' with
    | some (.cells _ cs), some (.cells _ cs') => match cs'[off']? with
      | some c => if b' ≠ b ∧ 0 ≤ i ∧ i < n ∧ off + n ≤ cs.length ∧ n ≤ 1099511627776 then
          .ok (.sl H.n 0 (n + 1) 1, (H.kill b).alloc (.cells 5 (((cs.drop off).take n).take i.toNat ++ c :: ((cs.drop off).take n).drop i.toNat))) else .no
      | none => .no
    | _, _ => .no
  | _, _ => .no
def pr (i : Nat) : Option (List AV → Heap → Out Ans) :=
  if i = 98 then some containsP else if i = 56 then some repeatP else if i = 118 then some formatUintP
  else if i = 126 then some indexByteP else if i = 104 then some insertP else none
def pow10 : List AV := [.int .u64 1, .int .u64 10, .int .u64 100, .int .u64 1000, .int .u64 10000, .int .u64 100000, .int .u64 1000000, .int .u64 10000000, .int .u64 100000000, .int .u64 1000000000, .int .u64 10000000000, .int .u64 100000000000, .int .u64 1000000000000, .int .u64 10000000000000, .int .u64 100000000000000, .int .u64 1000000000000000, .int .u64 10000000000000000, .int .u64 100000000000000000, .int .u64 1000000000000000000, .int .u64 10000000000000000000]
def gl (m : Int) (i : Nat) : Option (List AV) := if i = 0 then some [.int .i64 m] else if i = 1 then some pow10 else none
noncomputable abbrev XX (m : Int) : Ctx := X0 (gl m) pr
noncomputable abbrev W (m : Int) : CallsT := callW (XX m)
theorem call_prim {X : Ctx} {f : Nat} {p : List AV → Heap → Out Ans} {vs : List AV} {H : Heap} {r : Ans} (h : X.prim f = some p) (h' : p vs H = .ok r) : callW X f vs H = .ok r :=
  callW_of (by unfold runF; rw [h]; exact h')
variable {m : Int}
theorem sContains {s t : List UInt8} (h : s.length < 4294967281) (H : Heap) : W m 98 [.str s, .str t] H = .ok (.bool (Lib.contains s t), H) :=
  call_prim (p := containsP) rfl (by simp only [containsP, if_pos h])
theorem sRepeat0 (s : List UInt8) (H : Heap) : W m 56 [.str s, .int .i64 0] H = .ok (.str [], H) :=
  call_prim (p := repeatP) rfl (by simp [repeatP])
theorem sRepeat1 {s : List UInt8} (h : s.length < 1099511627776) (H : Heap) : W m 56 [.str s, .int .i64 1] H = .ok (.str s, H) :=
  call_prim (p := repeatP) rfl (by simp [repeatP, h])
theorem sFormat {n : Int} (h0 : 0 ≤ n) (h : n < 18446744073709551616) (H : Heap) : W m 118 [.int .u64 n, .int .i64 10] H = .ok (.str (Lib.decDigits n.toNat), H) :=
  call_prim (p := formatUintP) rfl (by simp [formatUintP, h0, h])
theorem sIndexByte (s : List UInt8) (c : Int) (H : Heap) : W m 126 [.str s, .int .u8 c] H = .ok (.int .i64 (Lib.indexByte s c.toNat.toUInt8), H) :=
  call_prim (p := indexByteP) rfl rfl

theorem sInsert {H : Heap} {b b' n i : Nat} {e e' : TypeId} {cs : List AV} {c : AV} (h : H.get b = some (.cells e cs)) (h' : H.get b' = some (.cells e' [c])) (hne : b' ≠ b) (hi : i < n) (hn : n = cs.length) (hc : n ≤ 1099511627776) :
    W m 104 [.sl b 0 n 1, .int .i64 i, .sl b' 0 1 1] H = .ok (.sl H.n 0 (n + 1) 1, (H.kill b).alloc (.cells 5 (cs.take i ++ c :: cs.drop i))) :=
  call_prim (p := insertP) rfl (by
    unfold insertP
    simp only [h, h', List.getElem?_cons_zero]
    rw [if_pos ⟨hne, by omega, by omega, by omega, hc⟩, hn]
    simp)

/- ### More rules -/
theorem wrap_i64 {x : Int} (h0 : -9223372036854775808 ≤ x) (h : x < 9223372036854775808) : IntKind.wrap .i64 x = x := by rw [IntKind.wrap_i64]; omega
theorem wrap_u8 {x : Int} (h0 : 0 ≤ x) (h : x < 256) : IntKind.wrap .u8 x = x := by rw [IntKind.wrap_u8]; omega
theorem wrap_u32 {x : Int} (h0 : 0 ≤ x) (h : x < 4294967296) : IntKind.wrap .u32 x = x := by rw [IntKind.wrap_u32]; omega
theorem wrap_u64 {x : Int} (h0 : 0 ≤ x) (h : x < 18446744073709551616) : IntKind.wrap .u64 x = x := by rw [IntKind.wrap_u64]; omega
theorem sadd (P : Program) (t : TypeId) (x y : Operand) {s u : List UInt8} (h : s.length + u.length ≤ 70368744177664) : M.bin P .add t x y (.str s) (.str u) = .ok (.str (s ++ u)) := bin_sadd P t x y h
theorem index_str {s : List UInt8} {k : IntKind} {i : Int} {b : UInt8} (h0 : 0 ≤ i) (h : s[i.toNat]? = some b) : M.indexStr (.str s) (.int k i) = .ok (.int .u8 b.toNat) := by simp [M.indexStr, h0, h]
theorem index_strn {s : List UInt8} {k : IntKind} {i : Nat} (h : i < s.length) : M.indexStr (.str s) (.int k i) = .ok (.int .u8 (s[i]'h).toNat) := index_str (by omega) (by simp [List.getElem?_eq_getElem h])
end Go.Proofs.YtnhblghplohonaaGreatDoor.Ab
