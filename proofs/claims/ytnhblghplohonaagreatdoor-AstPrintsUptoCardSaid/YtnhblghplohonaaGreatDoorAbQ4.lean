/- What an argument reads as. -/
import Derived.Test.YtnhblghplohonaaGreatDoorAbZ4
import Derived.Test.YtnhblghplohonaaGreatDoorRows
import Derived.ProofKit
set_option linter.unusedSimpArgs false
set_option linter.unusedVariables false
namespace Go.Proofs.YtnhblghplohonaaGreatDoor.Ab
open Go

/-- The ghost of a world in which nothing that lies there is written. -/
def gh0 (W : World) : Gh := ⟨fun _ => none, fun _ => none, fun _ => none, fun cb => W.heap[cb]?, fun cb => W.heap[cb]?⟩
theorem rel0 (W : World) : Rel (gh0 W) [] default W.heap := by
  refine ⟨fun cb x hx => ⟨hx, rfl⟩, fun cb x hx => hx, fun b x hb => (by cases hb), fun b x hb => ?_, fun j cs hj => (by cases hj), fun cb x hx => (by cases hx)⟩
  have : (default : Heap).get b = none := rfl
  rw [this] at hb; cases hb
theorem exists_list {α : Type} {Q : Nat → α → Prop} : ∀ (k : Nat), (∀ i, i < k → ∃ x, Q i x) → ∃ l : List α, l.length = k ∧ ∀ i x, l[i]? = some x → Q i x
  | 0, _ => ⟨[], rfl, fun i x h => by simp at h⟩
  | k + 1, h => by
    obtain ⟨l, h1, h2⟩ := exists_list k fun i hi => h i (by omega)
    obtain ⟨x, hx⟩ := h k (by omega)
    refine ⟨l ++ [x], by simp [h1], fun i y hy => ?_⟩
    by_cases hi : i < l.length
    · rw [List.getElem?_append_left hi] at hy; exact h2 i y hy
    · rw [List.getElem?_append_right (by omega)] at hy
      have : i - l.length = 0 := by have := (List.getElem?_eq_some_iff.1 hy).1; simp at this; omega
      rw [this] at hy
      simp at hy; subst hy
      have : i = k := by omega
      subst this; exact hx
theorem szs_bulk {H : Type} : ∀ (l : List Nd) (ds : List (DataW H)), l.length = ds.length → (∀ (i : Nat) (x : Nd) (d : DataW H), l[i]? = some x → ds[i]? = some d → x.sz ≤ Rows.uptoBulk d) → Nd.szs l ≤ Rows.uptoBulkAll ds
  | [], _, _, _ => by simp [Nd.szs]
  | x :: l, [], h, _ => by simp at h
  | x :: l, d :: ds, h, hx => by
    have h1 := hx 0 x d rfl rfl
    have h2 := szs_bulk l ds (by simpa using h) fun i y e hy he => hx (i + 1) y e hy he
    simp only [Nd.szs, Rows.uptoBulkAll]
    omega
theorem cell_I {W : World} {a : Addr} {p q : Nat} {v : Value} (h : W.cell? ((a.add p).add q) = some v) : cellI (gh0 W).I a.block (a.off + p + q) = some v := by
  unfold World.cell? at h
  have hb : ((a.add p).add q).block = a.block := by unfold Addr.add; split <;> split <;> rfl
  have ho : ((a.add p).add q).off = a.off + p + q := by
    by_cases h1 : p = 0 <;> by_cases h2 : q = 0 <;> simp [Addr.add, h1, h2]
  rw [hb, ho] at h
  unfold cellI
  show (match W.heap[a.block]? with | some (.cells c _ _) => c[a.off + p + q]? | _ => none) = _
  split at h
  · rename_i c e fz hc
    rw [hc]
    split at h
    · cases h
    · exact h
  · cases h
set_option maxRecDepth 100000 in
theorem rd {H : Type} {enc : TypeId × Value → H} {W : World} : ∀ (fuel : Nat) (cs : List Value) (d : DataW H) (ps : List MemPlace), DataW.trod enc Tryz.prog W 0 (fun _ => true) true fuel 25 cs = some (d, ps) →
    ∃ n : Nd, numB n = true ∧ n.sz ≤ Rows.uptoBulk d ∧ Reps (gh0 W) n.cs cs ∧ ∀ v ∈ cs, v.oneCell' = true := by
  intro fuel
  induction fuel using Nat.strongRecOn with
  | ind fuel ih =>
    intro cs d ps h
    obtain ⟨xs, n, rfl, hx, hlen, hxl, hf⟩ := DataW.trod_struct Tryz.underlying25 h
    have hc6 : Tryz.prog.cellsOf 25 = 6 := by kernel_rfl
    rw [hc6] at hlen
    obtain ⟨c0, c1, c2, c3, c4, c5, rfl⟩ : ∃ c0 c1 c2 c3 c4 c5, cs = [c0, c1, c2, c3, c4, c5] := by
      match cs, hlen with
      | [c0, c1, c2, c3, c4, c5], _ => exact ⟨c0, c1, c2, c3, c4, c5, rfl⟩
    obtain ⟨x0, x1, x2, x3, x4, x5, rfl⟩ : ∃ x0 x1 x2 x3 x4 x5, xs = [x0, x1, x2, x3, x4, x5] := by
      match xs, hxl with
      | [x0, x1, x2, x3, x4, x5], _ => exact ⟨x0, x1, x2, x3, x4, x5, rfl⟩
    cases hx
    have k3 : Tryz.prog.cellsOf 3 = 1 := by kernel_rfl
    have k9 : Tryz.prog.cellsOf 9 = 1 := by kernel_rfl
    have k22 : Tryz.prog.cellsOf 22 = 1 := by kernel_rfl
    have k4 : Tryz.prog.cellsOf 4 = 1 := by kernel_rfl
    have k23 : Tryz.prog.cellsOf 23 = 1 := by kernel_rfl
    have f0 := hf 0 _ rfl
    have f1 := hf 1 _ rfl
    have f2 := hf 2 _ rfl
    have f3 := hf 3 _ rfl
    have f4 := hf 4 _ rfl
    have f5 := hf 5 _ rfl
    simp only [k3, k9, k22, k4, k23, List.drop_zero, List.drop_succ_cons, List.take_succ_cons, List.take_zero, List.getElem?_cons_zero, List.getElem?_cons_succ] at f0 f1 f2 f3 f4 f5
    obtain ⟨kk, e0, rfl, _⟩ := DataW.trod_int Tryz.underlying3 f0
    obtain ⟨ss, e1, rfl, _⟩ := DataW.trod_string Tryz.underlying9 f1
    obtain ⟨nn, e2, rfl, hw⟩ := DataW.trod_int Tryz.underlying22 f2
    obtain ⟨bb, e3, rfl⟩ := DataW.trod_bool Tryz.underlying4 f3
    obtain ⟨pp, e5, rfl, _⟩ := DataW.trod_int Tryz.underlying3 f5
    cases e0; cases e1; cases e2; cases e3; cases e5
    have hnn : 0 ≤ nn ∧ nn < 4294967296 := by
      simp only [Lit.wf, Bool.and_eq_true, decide_eq_true_eq] at hw
      have h1 : IntKind.u32.min = 0 := by decide
      have h2 : IntKind.u32.max = 4294967295 := by decide
      rw [h1, h2] at hw; omega
    -- with its kids
    have fin : ∀ (b : Bool) (l : List Nd) (d4 : DataW H), (∀ x ∈ l, numB x = true) → Nd.szs l + 1 ≤ Rows.uptoBulk d4 → Rep (gh0 W) (kv b l) c4 → c4.oneCell' = true → x4.1 = d4 →
        ∃ n : Nd, numB n = true ∧ n.sz ≤ Rows.uptoBulk (DataW.agg (H := H) (([(DataW.lit (.int .i64 kk), []), (.lit (.string ss.data.toList), []), (.lit (.int .u32 nn), []), (.lit (.bool bb), []), x4, (.lit (.int .i64 pp), [])] : List (DataW H × List MemPlace)).map (·.1))) ∧
          Reps (gh0 W) n.cs [.int .i64 kk, .string ss, .int .u32 nn, .bool bb, c4, .int .i64 pp] ∧ ∀ v ∈ [Value.int .i64 kk, .string ss, .int .u32 nn, .bool bb, c4, .int .i64 pp], v.oneCell' = true := by
      intro b l d4 hl hsz hr hone he
      refine ⟨.mk kk ss.data.toList nn bb b l pp, ?_, ?_, ?_, ?_⟩
      · unfold numB
        rw [numBs_all]
        simp only [Bool.and_eq_true, decide_eq_true_eq, List.all_eq_true]
        exact ⟨hnn, hl⟩
      · simp only [List.map_cons, List.map_nil, Rows.uptoBulk, Rows.uptoBulkAll, he, Nd.sz]
        omega
      · exact .cons (.int _ _) (.cons (.str _) (.cons (.int _ _) (.cons (.bool _) (.cons hr (.cons (.int _ _) (.nil _))))))
      · intro v hv
        simp only [List.mem_cons, List.not_mem_nil, or_false] at hv
        rcases hv with rfl | rfl | rfl | rfl | rfl | rfl <;> first | rfl | exact hone
    rcases DataW.trod_slice Tryz.underlying23 f4 with ⟨e4, rfl⟩ | ⟨a, len, cap, elems, rest, m, rfl, e4, rfl, _, hle, _, hel, he, _, _⟩
    · cases e4
      exact fin true [] .nil (fun x hx => by cases hx) (by simp [Nd.szs, Rows.uptoBulk]) (.v rfl) rfl rfl
    · cases e4
      rw [hc6] at he
      have hkid : ∀ i, i < len → ∃ x : Nd, numB x = true ∧ (∀ d, (elems.map (·.1))[i]? = some d → x.sz ≤ Rows.uptoBulk d) ∧ ∀ j c, x.cs[j]? = some c → ∃ v, cellI (gh0 W).I a.block (a.off + i * 6 + j) = some v ∧ v.oneCell' = true ∧ Rep (gh0 W) c v ∧ W.cell? ((a.add (i * 6)).add j) = some v := by
        intro i hi
        have h1 := he i hi
        rw [List.getElem?_eq_getElem (by omega)] at h1
        simp only [Option.bind_eq_some_iff] at h1
        obtain ⟨cs1, hc1, hc2⟩ := h1
        obtain ⟨_, hl1, hg1⟩ := World.cells?_some hc1
        obtain ⟨x, x1, x2, x3, x4⟩ := ih m (by omega) cs1 elems[i].1 elems[i].2 hc2
        refine ⟨x, x1, fun d hd => ?_, fun j c hj => ?_⟩
        · rw [List.getElem?_map, List.getElem?_eq_getElem (by omega)] at hd
          simp at hd; subst hd; exact x2
        · obtain ⟨v, hv1, hv2⟩ := x3.get hj
          have hj6 : j < 6 := by have := (List.getElem?_eq_some_iff.1 hj).1; simpa using this
          have hcell := (hg1 j hj6).trans hv1
          exact ⟨v, cell_I hcell, x4 v (List.mem_of_getElem? hv1), hv2, hcell⟩
      obtain ⟨l, hll, hlq⟩ := exists_list len hkid
      have hsp : 0 < len → a.spot = none := fun h0 => by
        obtain ⟨_, _, hq⟩ := hlq 0 _ (List.getElem?_eq_getElem (by omega))
        obtain ⟨v, _, _, _, hc⟩ := hq 0 _ (List.getElem?_eq_getElem (by simp))
        unfold World.cell? at hc
        split at hc
        · split at hc
          · cases hc
          · rename_i hns
            simp [Addr.add] at hns
            exact hns
        · cases hc
      refine fin false l (.slice (elems.map (·.1)) (rest.map (·.1))) (fun x hx => ?_) ?_ ?_ rfl rfl
      · obtain ⟨i, hi, rfl⟩ := List.getElem_of_mem hx
        exact (hlq i _ (List.getElem?_eq_getElem hi)).1
      · have := szs_bulk l (elems.map (·.1)) (by simp [hll, hel]) fun i x d hx hd => (hlq i x hx).2.1 d hd
        simp only [Rows.uptoBulk]
        omega
      · have hk : kv false l = .isl 6 (l.map Nd.av) := by simp [kv, kav]
        rw [hk]
        have hlen2 : (l.map Nd.av).length = len := by simp [hll]
        have hcc : ∀ (i j : Nat) (x c : AV), (l.map Nd.av)[i]? = some x → x.cells[j]? = some c → ∃ y : Nd, l[i]? = some y ∧ y.cs[j]? = some c := fun i j x c hx hc => by
          rw [List.getElem?_map] at hx
          cases hy : l[i]? with
          | none => rw [hy] at hx; cases hx
          | some y => rw [hy] at hx; simp at hx; subst hx; rw [av_cells] at hc; exact ⟨y, rfl, hc⟩
        have hcv : ∀ (i j : Nat) (y : Nd) (c : AV), l[i]? = some y → y.cs[j]? = some c → ∃ v, cellI (gh0 W).I a.block (a.off + i * 6 + j) = some v ∧ v.oneCell' = true ∧ Rep (gh0 W) c v := fun i j y c hy hc => by
          obtain ⟨v, v1, v2, v3, _⟩ := (hlq i y hy).2.2 j c hc
          exact ⟨v, v1, v2, v3⟩
        have key : Rep (gh0 W) (.isl 6 (l.map Nd.av)) (.slice (some a) (l.map Nd.av).length cap) := by
          refine .isl (cb := a.block) (o := a.off) (fun i j => (cellI (gh0 W).I a.block (a.off + i * 6 + j)).getD undef) (by omega) (fun hne => ?_) (fun i j x c hx hc => ?_) (fun i j x c hx hc => ?_)
          · have h0 : 0 < len := by rw [← hlen2]; exact List.length_pos_iff.2 hne
            have := hsp h0
            obtain ⟨ab, ao, asp⟩ := a
            simp only at this
            subst this; rfl
          · obtain ⟨y, hy1, hy2⟩ := hcc i j x c hx hc
            obtain ⟨v, v1, v2, v3⟩ := hcv i j y c hy1 hy2
            simp only [v1, Option.getD_some, v2, and_self]
          · obtain ⟨y, hy1, hy2⟩ := hcc i j x c hx hc
            obtain ⟨v, v1, v2, v3⟩ := hcv i j y c hy1 hy2
            simp only [v1, Option.getD_some]
            exact v3
        rw [hlen2] at key
        exact key
end Go.Proofs.YtnhblghplohonaaGreatDoor.Ab
