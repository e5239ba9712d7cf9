/- Trees of the program's as trees of Lean's, and rules for them. -/
import Derived.Test.YtnhblghplohonaaGreatDoorAbS
set_option linter.unusedSimpArgs false
set_option linter.unusedVariables false
namespace Go.Proofs.YtnhblghplohonaaGreatDoor.Ab
open Go

inductive Nd where
  | mk (kind : Int) (str : List UInt8) (num : Int) (flag : Bool) (nil : Bool) (kids : List Nd) (pos : Int)
namespace Nd
def kind : Nd → Int | mk k _ _ _ _ _ _ => k
def str : Nd → List UInt8 | mk _ s _ _ _ _ _ => s
def num : Nd → Int | mk _ _ n _ _ _ _ => n
def flag : Nd → Bool | mk _ _ _ f _ _ _ => f
def nil : Nd → Bool | mk _ _ _ _ b _ _ => b
def kids : Nd → List Nd | mk _ _ _ _ _ l _ => l
def pos : Nd → Int | mk _ _ _ _ _ _ p => p
end Nd
/-- A list of nodes that nobody writes; nil, perhaps, if it is empty. -/
def kav (b : Bool) (l : List AV) : AV := if b && l.isEmpty then nilSlice else .isl 6 l
mutual
def Nd.av : Nd → AV
  | .mk k s n f b l p => .agg [.int .i64 k, .str s, .int .u32 n, .bool f, kav b (Nd.avs l), .int .i64 p]
def Nd.avs : List Nd → List AV
  | [] => []
  | x :: r => x.av :: Nd.avs r
end
theorem Nd.avs_map : ∀ l : List Nd, Nd.avs l = l.map Nd.av
  | [] => rfl
  | x :: r => by simp only [Nd.avs, List.map_cons, Nd.avs_map r]
def kv (b : Bool) (l : List Nd) : AV := kav b (l.map Nd.av)
def Nd.cs (n : Nd) : List AV := [.int .i64 n.kind, .str n.str, .int .u32 n.num, .bool n.flag, kv n.nil n.kids, .int .i64 n.pos]
theorem Nd.av_eq (n : Nd) : n.av = .agg [.int .i64 n.kind, .str n.str, .int .u32 n.num, .bool n.flag, kv n.nil n.kids, .int .i64 n.pos] := by
  cases n; simp only [Nd.av, Nd.kind, Nd.str, Nd.num, Nd.flag, Nd.nil, Nd.kids, Nd.pos, kv, Nd.avs_map]
theorem Nd.av_cs (n : Nd) : n.av = .agg n.cs := n.av_eq
@[simp] theorem fold_cs (n : Nd) : [AV.int .i64 n.kind, .str n.str, .int .u32 n.num, .bool n.flag, kv n.nil n.kids, .int .i64 n.pos] = n.cs := rfl
@[simp] theorem fold_av (n : Nd) : AV.agg n.cs = n.av := n.av_cs.symm
@[simp] theorem av_cells (n : Nd) : n.av.cells = n.cs := by rw [n.av_cs]; rfl
@[simp] theorem av_one (n : Nd) : n.av.one = true := by rw [n.av_cs]; rfl
@[simp] theorem cs_length (n : Nd) : n.cs.length = 6 := rfl
section
variable (n : Nd) (H : Heap)
@[simp] theorem ldc_cs : M.ldc true 6 n.cs 0 = .ok n.av := by rw [n.av_cs]; rfl
@[simp] theorem ldc_cs0 : M.ldc false 1 n.cs 0 = .ok (.int .i64 n.kind) := rfl
@[simp] theorem ldc_cs1 : M.ldc false 1 n.cs 1 = .ok (.str n.str) := rfl
@[simp] theorem ldc_cs2 : M.ldc false 1 n.cs 2 = .ok (.int .u32 n.num) := rfl
@[simp] theorem ldc_cs3 : M.ldc false 1 n.cs 3 = .ok (.bool n.flag) := rfl
@[simp] theorem ldc_cs4 : M.ldc false 1 n.cs 4 = .ok (kv n.nil n.kids) := rfl
@[simp] theorem ldc_cs5 : M.ldc false 1 n.cs 5 = .ok (.int .i64 n.pos) := rfl
@[simp] theorem load_cs : M.load true 6 (.iptr n.cs) H = .ok n.av := ldc_cs n
@[simp] theorem load_cs0 : M.load false 1 (.iptr n.cs) H = .ok (.int .i64 n.kind) := rfl
@[simp] theorem load_cs0' : M.load false 1 (.iptr (n.cs.drop 0)) H = .ok (.int .i64 n.kind) := rfl
@[simp] theorem load_cs1 : M.load false 1 (.iptr (n.cs.drop 1)) H = .ok (.str n.str) := rfl
@[simp] theorem load_cs2 : M.load false 1 (.iptr (n.cs.drop 2)) H = .ok (.int .u32 n.num) := rfl
@[simp] theorem load_cs3 : M.load false 1 (.iptr (n.cs.drop 3)) H = .ok (.bool n.flag) := rfl
@[simp] theorem load_cs4 : M.load false 1 (.iptr (n.cs.drop 4)) H = .ok (kv n.nil n.kids) := rfl
@[simp] theorem load_cs5 : M.load false 1 (.iptr (n.cs.drop 5)) H = .ok (.int .i64 n.pos) := rfl
@[simp] theorem field_av0 : M.field false 1 0 n.av = .ok (.int .i64 n.kind) := by rw [n.av_cs]; rfl
@[simp] theorem field_av1 : M.field false 1 1 n.av = .ok (.str n.str) := by rw [n.av_cs]; rfl
@[simp] theorem field_av2 : M.field false 1 2 n.av = .ok (.int .u32 n.num) := by rw [n.av_cs]; rfl
@[simp] theorem field_av3 : M.field false 1 3 n.av = .ok (.bool n.flag) := by rw [n.av_cs]; rfl
@[simp] theorem field_av4 : M.field false 1 4 n.av = .ok (kv n.nil n.kids) := by rw [n.av_cs]; rfl
/-- A node that is put in the place of another value of six cells. -/
theorem stc_av {cs : List AV} (h : cs.length = 6) : M.stc 6 cs 0 n.av = .ok n.cs := by
  simp only [M.stc, av_one, av_cells, cs_length, h, M.over]
  simp [h, ← List.length_eq_zero_iff]
@[simp] theorem stc_av6 (a b c d e f : AV) : M.stc 6 [a, b, c, d, e, f] 0 n.av = .ok n.cs := stc_av n rfl
@[simp] theorem stc_avn (m : Nd) : M.stc 6 m.cs 0 n.av = .ok n.cs := stc_av n rfl
end
theorem kv_nil (b : Bool) : kv b [] = if b then nilSlice else .isl 6 [] := by cases b <;> rfl
theorem kv_cons (b : Bool) (x : Nd) (r : List Nd) : kv b (x :: r) = .isl 6 (x.av :: r.map Nd.av) := by simp [kv, kav]
@[simp] theorem len_kv (b : Bool) (l : List Nd) : M.len false (kv b l) = .ok (.int .i64 l.length) := by
  cases l with
  | nil => cases b <;> rfl
  | cons x r => rw [kv_cons, len_isl]; simp
theorem index_kv {b : Bool} {l : List Nd} {n : Int} {x : Nd} (h0 : 0 ≤ n) (h : l[n.toNat]? = some x) : M.indexSl 6 (kv b l) (.int .i64 n) = .ok (.iptr x.cs) := by
  cases l with
  | nil => simp at h
  | cons y r =>
    rw [kv_cons]
    have h' : (y.av :: r.map Nd.av)[n.toNat]? = some x.av := by rw [← List.map_cons, List.getElem?_map, h]; rfl
    simp [M.indexSl, h0, h']
theorem index_kvn {b : Bool} {l : List Nd} {i : Nat} (h : i < l.length) : M.indexSl 6 (kv b l) (.int .i64 i) = .ok (.iptr l[i].cs) :=
  index_kv (by omega) (by simp [List.getElem?_eq_getElem h])
@[simp] theorem index_kv0 (b : Bool) (x : Nd) (r : List Nd) : M.indexSl 6 (kv b (x :: r)) (.int .i64 0) = .ok (.iptr x.cs) := index_kv (by decide) rfl
@[simp] theorem index_kv1 (b : Bool) (x y : Nd) (r : List Nd) : M.indexSl 6 (kv b (x :: y :: r)) (.int .i64 1) = .ok (.iptr y.cs) := index_kv (by decide) rfl
@[simp] theorem index_kv2 (b : Bool) (x y z : Nd) (r : List Nd) : M.indexSl 6 (kv b (x :: y :: z :: r)) (.int .i64 2) = .ok (.iptr z.cs) := index_kv (by decide) rfl
@[simp] theorem index_kv3 (b : Bool) (x y z u : Nd) (r : List Nd) : M.indexSl 6 (kv b (x :: y :: z :: u :: r)) (.int .i64 3) = .ok (.iptr u.cs) := index_kv (by decide) rfl
/-- A part of a list. -/
theorem slice_kv {b : Bool} {l : List Nd} {i j : Nat} (h : i ≤ j) (h' : j ≤ l.length) : ∃ b', M.sliceSl 6 (kv b l) (some (.int .i64 i)) (some (.int .i64 j)) = .ok (kv b' ((l.take j).drop i)) := by
  cases l with
  | nil =>
    have hj : j = 0 := by simpa using h'
    subst hj
    have hi : i = 0 := by omega
    subst hi
    cases b
    · exact ⟨false, by simp [kv, kav, M.sliceSl, M.bound]⟩
    · exact ⟨true, by simp [kv, kav, M.sliceSl, M.bound, nilSlice]⟩
  | cons x r =>
    refine ⟨false, ?_⟩
    rw [kv_cons]
    have h2 : j ≤ (r.length + 1) := by simpa using h'
    simp only [M.sliceSl, M.bound, bind_ok, List.length_cons, List.length_map]
    rw [if_pos (by simp only [List.length_cons, List.length_map, true_and]; exact ⟨by omega, by omega, by omega⟩)]
    simp only [Int.toNat_natCast, kv, kav, Bool.false_and, Bool.false_eq_true, if_false]
    rw [← List.map_cons, ← List.map_take, ← List.map_drop]
theorem slice_kv_from {b : Bool} {l : List Nd} {i : Nat} (h : i ≤ l.length) : ∃ b', M.sliceSl 6 (kv b l) (some (.int .i64 i)) none = .ok (kv b' (l.drop i)) := by
  obtain ⟨b', h1⟩ := slice_kv (b := b) (l := l) h (Nat.le_refl _)
  refine ⟨b', ?_⟩
  rw [List.take_length] at h1
  rw [← h1]
  cases l with
  | nil => cases b <;> simp [kv, kav, M.sliceSl, M.bound, nilSlice]
  | cons x r => rw [kv_cons]; simp [M.sliceSl, M.bound]
theorem slice_kv_1 (b : Bool) (x : Nd) (r : List Nd) : ∃ b', M.sliceSl 6 (kv b (x :: r)) (some (.int .i64 1)) none = .ok (kv b' r) := slice_kv_from (b := b) (l := x :: r) (i := 1) (by simp)
theorem slice_kv_to {b : Bool} {l : List Nd} {j : Nat} (h : j ≤ l.length) : ∃ b', M.sliceSl 6 (kv b l) none (some (.int .i64 j)) = .ok (kv b' (l.take j)) := by
  obtain ⟨b', h1⟩ := slice_kv (b := b) (l := l) (Nat.zero_le _) h
  refine ⟨b', ?_⟩
  rw [List.drop_zero] at h1
  rw [← h1]
  cases l with
  | nil => cases b <;> simp [kv, kav, M.sliceSl, M.bound, nilSlice]
  | cons x r => rw [kv_cons]; simp [M.sliceSl, M.bound]

mutual
theorem Nd.ind {P : Nd → Prop} (h : ∀ n, (∀ x ∈ n.kids, P x) → P n) : ∀ n, P n
  | .mk k s m f b l p => h _ (Nd.indL h l)
theorem Nd.indL {P : Nd → Prop} (h : ∀ n, (∀ x ∈ n.kids, P x) → P n) : ∀ (l : List Nd), ∀ x ∈ l, P x
  | [], _, hx => by cases hx
  | y :: r, x, hx => (List.mem_cons.mp hx).elim (fun e => e ▸ Nd.ind h y) (Nd.indL h r x)
end
end Go.Proofs.YtnhblghplohonaaGreatDoor.Ab
