/- The abstract machine: reading and writing cells; the heap's changes. (Laws.) -/
import Derived.Test.YtnhblghplohonaaGreatDoorAbC
set_option linter.unusedSimpArgs false
set_option linter.unusedVariables false
namespace Go.Proofs.YtnhblghplohonaaGreatDoor.Ab
open Go

/- ### Types -/
theorem ti_facts {P : Program} {t : TypeId} {ti : TI} (h : tiOf P t = some ti) : ∃ d i, P.underlying t = some d ∧ P.info? t = some i ∧ tkOf P d = some ti.k ∧
    ti.agg = isAggD d ∧ ti.sz = i.size ∧ ti.bytes = i.bytes ∧ ti.zero = i.zero.bind ofV := by
  unfold tiOf at h
  cases hd : P.underlying t with
  | none => rw [hd] at h; cases h
  | some d =>
    cases hi : P.info? t with
    | none => rw [hd, hi] at h; cases h
    | some i =>
      rw [hd, hi] at h
      simp only at h
      cases hk : tkOf P d with
      | none => rw [hk] at h; cases h
      | some k => rw [hk] at h; cases h; exact ⟨d, i, rfl, rfl, hk, rfl, rfl, rfl, rfl⟩
theorem run_und {P : Program} {t : TypeId} {d : TypeDesc} (h : P.underlying t = some d) (w : World) : (underlying t).run P w = .ok d w := by
  simp [underlying, h]
theorem run_info {P : Program} {t : TypeId} {i : TypeInfo} (h : P.info? t = some i) (w : World) : (typeInfo t).run P w = .ok i w := by
  simp [typeInfo, h]
theorem run_size {P : Program} {t : TypeId} {i : TypeInfo} (h : P.info? t = some i) (w : World) : (sizeOf t).run P w = .ok i.size w := by
  simp [sizeOf, run_info h]
theorem run_agg {P : Program} {t : TypeId} {d : TypeDesc} (h : P.underlying t = some d) (w : World) : (isAgg t).run P w = .ok (isAggD d) w := by
  cases d <;> simp [isAgg, run_und h, isAggD]
theorem run_zero {P : Program} {t : TypeId} {i : TypeInfo} {v : Value} (h : P.info? t = some i) (hz : i.zero = some v) (w : World) : (zeroValue t).run P w = .ok v w := by
  simp [zeroValue, run_info h, hz]

/- ### Cells -/
theorem add_add (cb o i : Nat) : (⟨cb, o, none⟩ : Addr).add i = ⟨cb, o + i, none⟩ := by
  unfold Addr.add; split
  · rename_i h; subst h; rfl
  · rfl

/-- From an address on, these cells lie there. -/
def CellsAt (g : Gh) (h : Array Obj) (cb o : Nat) (cs : List AV) : Prop :=
  ∃ (arr : Array Value) (e : TypeId) (fz : Nat × Nat), h[cb]? = some (.cells arr e fz) ∧ ∀ j c, cs[j]? = some c → ∃ v, arr[o + j]? = some v ∧ Rep g c v ∧ v.oneCell' = true

theorem CellsAt.drop {g : Gh} {h : Array Obj} {cb o : Nat} {cs : List AV} (hc : CellsAt g h cb o cs) (n : Nat) : CellsAt g h cb (o + n) (cs.drop n) := by
  obtain ⟨arr, e, fz, h1, h2⟩ := hc
  exact ⟨arr, e, fz, h1, fun j c hj => by rw [List.getElem?_drop] at hj; obtain ⟨v, a, b⟩ := h2 _ c hj; exact ⟨v, by rw [← a]; congr 1; omega, b⟩⟩
theorem CellsAt.take {g : Gh} {h : Array Obj} {cb o : Nat} {cs : List AV} (hc : CellsAt g h cb o cs) (n : Nat) : CellsAt g h cb o (cs.take n) := by
  obtain ⟨arr, e, fz, h1, h2⟩ := hc
  exact ⟨arr, e, fz, h1, fun j c hj => h2 j c (by rw [List.getElem?_take] at hj; split at hj <;> first | exact hj | cases hj)⟩
/-- The values that lie there. -/
theorem CellsAt.vals {g : Gh} {h : Array Obj} {cb o : Nat} {cs : List AV} (hc : CellsAt g h cb o cs) : ∃ vs : List Value, Reps g cs vs ∧ (∀ v ∈ vs, v.oneCell' = true) ∧
    ∀ w : World, w.heap = h → ∀ (j : Nat) v, vs[j]? = some v → w.cell? ⟨cb, o + j, none⟩ = some v := by
  obtain ⟨arr, e, fz, h1, h2⟩ := hc
  have hlen : ∀ j, j < cs.length → o + j < arr.size := fun j hj => by
    obtain ⟨v, a, _⟩ := h2 j _ (List.getElem?_eq_getElem hj)
    exact (Array.getElem?_eq_some_iff.1 a).1
  have hvl : ∀ j, j < cs.length → ((arr.toList.drop o).take cs.length)[j]? = arr[o + j]? := fun j hj => by
    rw [List.getElem?_take, if_pos hj, List.getElem?_drop]; simp
  have hl : ((arr.toList.drop o).take cs.length).length = cs.length := by
    simp only [List.length_take, List.length_drop, Array.length_toList]
    by_cases hz : cs.length = 0
    · omega
    · have := hlen (cs.length - 1) (by omega); omega
  refine ⟨(arr.toList.drop o).take cs.length, ⟨hl.symm, fun j c v hj hv => ?_⟩, fun v hv => ?_, fun w hw j v hv => ?_⟩
  · have hlt := (List.getElem?_eq_some_iff.1 hj).1
    obtain ⟨u, a, b, _⟩ := h2 j c hj
    rw [hvl j hlt, a] at hv; cases hv; exact b
  · obtain ⟨j, hj, hv⟩ := List.getElem_of_mem hv
    rw [hl] at hj
    obtain ⟨u, a, _, b⟩ := h2 j _ (List.getElem?_eq_getElem hj)
    have := hvl j hj
    rw [a, List.getElem?_eq_getElem (by rw [hl]; exact hj), hv] at this
    cases this; exact b
  · have hlt : j < cs.length := by rw [← hl]; exact (List.getElem?_eq_some_iff.1 hv).1
    rw [hvl j hlt] at hv
    simp [World.cell?, hw, h1, hv]

theorem run_loadCellsFrom {P : Program} {w : World} {cb o : Nat} : ∀ (vs : List Value) (i : Nat) (acc : Array Value),
    (∀ (j : Nat) v, vs[j]? = some v → w.cell? ⟨cb, o + i + j, none⟩ = some v) → (loadCellsFrom ⟨cb, o, none⟩ i vs.length acc).run P w = .ok (acc ++ vs.toArray) w
  | [], i, acc, _ => by simp [loadCellsFrom]
  | v :: vs, i, acc, h => by
    have h0 := h 0 v rfl
    simp only [List.length_cons, loadCellsFrom, Sem.run_bind, add_add, run_load]
    have h0' : w.cell? ⟨cb, o + i, none⟩ = some v := h0
    rw [h0']
    simp only [Result.andThen_ok]
    rw [run_loadCellsFrom vs (i + 1) (acc.push v) (fun j u hu => by
      have := h (j + 1) u (by simpa using hu)
      rw [← this]; congr 2; omega)]
    simp
theorem run_loadCells {P : Program} {w : World} {cb o : Nat} {vs : List Value} {n : Nat} (hn : n = vs.length)
    (h : ∀ (j : Nat) v, vs[j]? = some v → w.cell? ⟨cb, o + j, none⟩ = some v) : (loadCells ⟨cb, o, none⟩ n).run P w = .ok vs.toArray w := by
  subst hn
  unfold loadCells
  rw [run_loadCellsFrom vs 0 #[] (fun j v hv => by simpa using h j v hv)]
  simp

theorem ldc_off (agg : Bool) (sz : Nat) (cs : List AV) (off : Nat) (r : AV) (h : M.ldc agg sz cs off = .ok r) : M.ldc agg sz (cs.drop off) 0 = .ok r := by
  unfold M.ldc at h ⊢
  cases agg with
  | true =>
    simp only [if_true] at h ⊢
    split at h
    · rename_i hle; rw [if_pos (by simp; omega)]; simpa using h
    · cases h
  | false =>
    simp only [Bool.false_eq_true, if_false] at h ⊢
    simpa using h

/-- A variable's value is loaded. -/
theorem load_cells {P : Program} {g : Gh} {w : World} {t : TypeId} {ti : TI} {cb o off : Nat} {cs : List AV} {r : AV} (ht : tiOf P t = some ti) (hc : CellsAt g w.heap cb o cs)
    (h : M.ldc ti.agg ti.sz cs off = .ok r) : ∃ v, (loadVar t ⟨cb, o + off, none⟩).run P w = .ok v w ∧ Rep g r v := by
  obtain ⟨d, i, hu, hi, _, ha, hs, _, _⟩ := ti_facts ht
  have h' := ldc_off _ _ _ _ _ h
  have hc' := hc.drop off
  unfold M.ldc at h'
  rw [ha, hs] at h'
  by_cases hag : isAggD d = true
  · rw [hag] at h'
    simp only [if_true] at h'
    split at h'
    · rename_i hle
      cases h'
      simp only [List.drop_zero]
      obtain ⟨vs, hr, ho, hv⟩ := (hc'.take i.size).vals
      have hl : i.size = vs.length := by rw [← hr.1]; simp at hle ⊢; omega
      refine ⟨.agg vs.toArray, ?_, .agg ho hr.1 hr.2⟩
      simp only [loadVar, Sem.run_bind, run_agg hu, Result.andThen_ok, hag, if_true, run_size hi, run_loadCells hl (hv w rfl), Sem.run_pure]
    · cases h'
  · simp only [Bool.not_eq_true] at hag
    rw [hag] at h'
    simp only [Bool.false_eq_true, if_false] at h'
    cases hx : (cs.drop off)[0]? with
    | none => rw [hx] at h'; cases h'
    | some c =>
      rw [hx] at h'; cases h'
      obtain ⟨vs, hr, _, hv⟩ := hc'.vals
      obtain ⟨v, hv0, hrv⟩ := hr.get hx
      refine ⟨v, ?_, hrv⟩
      have hcell := hv w rfl 0 v hv0
      simp only [Nat.add_zero] at hcell
      simp only [loadVar, Sem.run_bind, run_agg hu, Result.andThen_ok, hag, Bool.false_eq_true, if_false, run_load, hcell]

/- ### Writing -/
def overL (l : List Value) (k : Nat) (vs : List Value) : List Value := l.take k ++ vs ++ l.drop (k + vs.length)

theorem overL_length {l : List Value} {k : Nat} {vs : List Value} (h : k + vs.length ≤ l.length) : (overL l k vs).length = l.length := by
  simp [overL]; omega
theorem overL_get {l : List Value} {k : Nat} {vs : List Value} (h : k + vs.length ≤ l.length) (j : Nat) :
    (overL l k vs)[j]? = if j < k then l[j]? else if j < k + vs.length then vs[j - k]? else l[j]? := by
  unfold overL
  have h1 : (l.take k).length = k := by simp; omega
  by_cases hj : j < k
  · rw [if_pos hj, List.getElem?_append_left (by simp; omega), List.getElem?_append_left (by omega), List.getElem?_take, if_pos hj]
  · rw [if_neg hj]
    by_cases hj2 : j < k + vs.length
    · rw [if_pos hj2, List.getElem?_append_left (by simp; omega), List.getElem?_append_right (by omega), h1]
    · rw [if_neg hj2, List.getElem?_append_right (by simp; omega), List.getElem?_drop]
      congr 1
      simp; omega

theorem run_storeCells {P : Program} {cb o : Nat} {e : TypeId} {fz : Nat × Nat} : ∀ (vs : List Value) (i : Nat) (w : World) (arr : Array Value),
    w.heap[cb]? = some (.cells arr e fz) → (∀ i, i ≤ arr.size → ¬ (fz.1 ≤ i ∧ i < fz.2)) → o + i + vs.length ≤ arr.size → (∀ v ∈ vs, v.oneCell' = true) →
    (storeCells ⟨cb, o, none⟩ vs i).run P w = .ok () { w with heap := w.heap.setIfInBounds cb (.cells ⟨overL arr.toList (o + i) vs⟩ e fz) }
  | [], i, w, arr, hb, _, _, _ => by
    have hlt : cb < w.heap.size := (Array.getElem?_eq_some_iff.1 hb).1
    have : w.heap.setIfInBounds cb (.cells ⟨overL arr.toList (o + i) []⟩ e fz) = w.heap := by
      apply Array.ext_getElem?
      intro j
      rw [Array.getElem?_setIfInBounds]
      split
      · rename_i h; subst h; rw [hb]; simp [overL]
      · rfl
    simp only [storeCells, Sem.run_pure, this]
  | v :: vs, i, w, arr, hb, hfr, hle, ho => by
    have hlt : cb < w.heap.size := (Array.getElem?_eq_some_iff.1 hb).1
    simp only [List.length_cons] at hle
    have hcell : w.cell? ⟨cb, o + i, none⟩ = some arr[o + i] := by simp [World.cell?, hb]
    have hfz : w.frozen? ⟨cb, o + i, none⟩ = false := by
      have := hfr (o + i) (by omega)
      simp only [World.frozen?, hb]
      simpa using this
    have hset : w.setCell ⟨cb, o + i, none⟩ v = { w with heap := w.heap.setIfInBounds cb (.cells (arr.setIfInBounds (o + i) v) e fz) } := by
      unfold World.setCell
      congr 1
      apply Array.ext_getElem?
      intro j
      rw [Array.getElem?_modify, Array.getElem?_setIfInBounds]
      split
      · rename_i h; subst h; rw [hb]; simp
      · rfl
    simp only [storeCells, Sem.run_bind, add_add, run_store P w _ v .plain (ho v List.mem_cons_self), hcell, hfz, Bool.false_eq_true, if_false, Result.andThen_ok, hset]
    rw [run_storeCells (e := e) (fz := fz) vs (i + 1) _ (arr.setIfInBounds (o + i) v) (by simp [hlt]) (by simpa using hfr) (by simp; omega) (fun u hu => ho u (List.mem_cons_of_mem _ hu))]
    congr 2
    apply Array.ext_getElem?
    intro j
    simp only [Array.getElem?_setIfInBounds]
    split
    · rename_i h
      subst h
      simp only [Array.size_setIfInBounds, hlt, if_true]
      congr 2
      apply congrArg Array.mk
      apply List.ext_getElem?
      intro k
      rw [overL_get (by simp; omega), overL_get (by simp; omega)]
      simp only [Array.toList_setIfInBounds, List.length_cons]
      by_cases hk : k < o + i
      · rw [if_pos (show k < o + (i + 1) by omega), if_pos hk, List.getElem?_set, if_neg (by omega)]
      · by_cases hk2 : k = o + i
        · subst hk2
          rw [if_pos (show o + i < o + (i + 1) by omega), if_neg hk, if_pos (show o + i < o + i + (vs.length + 1) by omega), List.getElem?_set, if_pos rfl, if_pos (by simp; omega)]
          simp
        · rw [if_neg (show ¬ k < o + (i + 1) by omega), if_neg hk]
          by_cases hk3 : k < o + (i + 1) + vs.length
          · rw [if_pos hk3, if_pos (show k < o + i + (vs.length + 1) by omega)]
            obtain ⟨q, rfl⟩ : ∃ q, k = o + i + 1 + q := ⟨k - (o + i + 1), by omega⟩
            rw [show o + i + 1 + q - (o + (i + 1)) = q by omega, show o + i + 1 + q - (o + i) = q + 1 by omega]
            rfl
          · rw [if_neg hk3, if_neg (show ¬ k < o + i + (vs.length + 1) by omega), List.getElem?_set, if_neg (by omega)]
    · rfl

theorem over_length {cs : List AV} {k : Nat} {vs : List AV} (h : k + vs.length ≤ cs.length) : (M.over cs k vs).length = cs.length := by
  simp [M.over]; omega
theorem over_get {cs : List AV} {k : Nat} {vs : List AV} (h : k + vs.length ≤ cs.length) (j : Nat) :
    (M.over cs k vs)[j]? = if j < k then cs[j]? else if j < k + vs.length then vs[j - k]? else cs[j]? := by
  unfold M.over
  have h1 : (cs.take k).length = k := by simp; omega
  by_cases hj : j < k
  · rw [if_pos hj, List.getElem?_append_left (by simp; omega), List.getElem?_append_left (by omega), List.getElem?_take, if_pos hj]
  · rw [if_neg hj]
    by_cases hj2 : j < k + vs.length
    · rw [if_pos hj2, List.getElem?_append_left (by simp; omega), List.getElem?_append_right (by omega), h1]
    · rw [if_neg hj2, List.getElem?_append_right (by simp; omega), List.getElem?_drop]
      congr 1
      simp; omega

/- ### The heap's changes -/
theorem BlkOk.mono {g g' : Gh} (e : Ext g g') {h : Array Obj} {cb base top : Nat} {x : Blk} (hb : BlkOk g h cb base top x) : BlkOk g' h cb base top x := by
  cases x with
  | cells el cs => obtain ⟨arr, h1, h2, h3, h4⟩ := hb; exact ⟨arr, h1, h2, h3, fun i c hc => let ⟨v, a, b, d⟩ := h4 i c hc; ⟨v, a, b.mono e, d⟩⟩
  | map kvs => obtain ⟨es, cl, h1, h2, h3⟩ := hb; exact ⟨es, cl, h1, h2, fun i p hp => let ⟨q, a, b, c⟩ := h3 i p hp; ⟨q, a, b.mono e, c.mono e⟩⟩
theorem BlkOk.of_heap {g : Gh} {h h' : Array Obj} {cb base top : Nat} (he : h'[cb]? = h[cb]?) {x : Blk} (hb : BlkOk g h cb base top x) : BlkOk g h' cb base top x := by
  cases x with
  | cells el cs =>
    obtain ⟨arr, ⟨e, fz, h1, h1'⟩, h2⟩ := hb
    exact ⟨arr, ⟨e, fz, he.trans h1, h1'⟩, h2⟩
  | map kvs => obtain ⟨es, cl, h1, h2⟩ := hb; exact ⟨es, cl, he.trans h1, h2⟩

theorem RowAt.of_heap {h h' : Array Obj} {cb : Nat} {arr : Array Value} (he : h'[cb]? = h[cb]?) (hr : RowAt h cb arr) : RowAt h' cb arr := by
  obtain ⟨e, fz, a, b⟩ := hr; exact ⟨e, fz, he.trans a, b⟩
theorem RowAt.lt {h : Array Obj} {cb : Nat} {arr : Array Value} (hr : RowAt h cb arr) : cb < h.size := by
  obtain ⟨e, fz, a, b⟩ := hr; exact (Array.getElem?_eq_some_iff.1 a).1
theorem push_old {h : Array Obj} {o : Obj} {cb : Nat} (hlt : cb < h.size) : (h.push o)[cb]? = h[cb]? := by
  rw [Array.getElem?_push]; rw [if_neg (by omega)]
theorem some_lt {h : Array Obj} {cb : Nat} {x : Obj} (e : h[cb]? = some x) : cb < h.size := (Array.getElem?_eq_some_iff.1 e).1

/-- A block comes. -/
def Gh.alloc (g : Gh) (n hs top : Nat) : Gh := { g with ρ := fun b => if b = n then some (hs, 0, top) else g.ρ b, o := fun cb => if cb = hs then some (.inl n) else g.o cb }
theorem Gh.alloc_ext {g : Gh} {L : Locs} {H : Heap} {h : Array Obj} (R : Rel g L H h) (top : Nat) : Ext g (g.alloc H.n h.size top) :=
  ⟨fun b x hb => by have := R.dom b x hb; simp only [Gh.alloc]; rw [if_neg (by omega)]; exact hb, fun _ _ h => h, fun _ _ h => h, fun _ _ => rfl⟩

theorem Rel.alloc' {g : Gh} {L : Locs} {H : Heap} {h : Array Obj} (R : Rel g L H h) {x : Blk} {o : Obj} {top : Nat}
    (hx : BlkOk (g.alloc H.n h.size top) (h.push o) h.size 0 top x) : Rel (g.alloc H.n h.size top) L (H.alloc x) (h.push o) := by
  have e := Gh.alloc_ext R top
  refine ⟨fun cb y hy => ?_, R.im, fun b y hb => ?_, fun b y hb => ?_, fun j cs hj => ?_, fun cb y hy => ?_⟩
  · obtain ⟨a, b⟩ := R.fr cb y hy
    have hlt := some_lt a
    exact ⟨(push_old hlt).trans a, by simp only [Gh.alloc]; rw [if_neg (by omega)]; exact b⟩
  · simp only [Gh.alloc] at hb
    simp only [Heap.alloc]
    split at hb
    · omega
    · have := R.dom b y hb; omega
  · rw [Heap.get_alloc] at hb
    split at hb
    · rename_i hbn
      cases hb
      exact ⟨h.size, 0, top, by simp [Gh.alloc, hbn], by simp [Gh.alloc, hbn], hx⟩
    · rename_i hbn
      obtain ⟨cb, base, tp, h1, h2, h3⟩ := R.blk b y hb
      have hlt := R.own cb _ h2
      exact ⟨cb, base, tp, e.ρ _ _ h1, by simp only [Gh.alloc]; rw [if_neg (by omega)]; exact h2, (h3.of_heap (push_old hlt)).mono e⟩
  · obtain ⟨cb, arr, h1, h2, h3, h4, h5⟩ := R.loc j cs hj
    have hlt := R.own cb _ h2
    exact ⟨cb, arr, h1, by simp only [Gh.alloc]; rw [if_neg (by omega)]; exact h2, h3.of_heap (push_old hlt), h4.mono e, h5⟩
  · simp only [Gh.alloc] at hy
    simp only [Array.size_push]
    split at hy
    · omega
    · have := R.own cb y hy; omega

/-- A row of cells comes; the model's may have room behind. -/
theorem Rel.alloc {g : Gh} {L : Locs} {H : Heap} {h : Array Obj} (R : Rel g L H h) {cs : List AV} {vs : List Value} {arr : Array Value} {e : TypeId}
    (hr : Reps g cs vs) (ho : ∀ v ∈ vs, v.oneCell' = true) (ha : ∀ j, j < vs.length → arr[j]? = vs[j]?) (hs : vs.length ≤ arr.size) {e' : TypeId} {fz : Nat × Nat} (hf : ∀ i, i ≤ arr.size → ¬ (fz.1 ≤ i ∧ i < fz.2)) :
    Rel (g.alloc H.n h.size arr.size) L (H.alloc (.cells e cs)) (h.push (.cells arr e' fz)) := by
  refine R.alloc' ⟨arr, ⟨e', fz, by simp, hf⟩, rfl, by rw [hr.1]; omega, fun i c hc => ?_⟩
  obtain ⟨v, hv, hrv⟩ := hr.get hc
  have hlt := (List.getElem?_eq_some_iff.1 hv).1
  refine ⟨v, by rw [Nat.zero_add, ha i hlt]; exact hv, hrv.mono (Gh.alloc_ext R _), ho v (List.mem_of_getElem? hv)⟩

/-- A local block comes. -/
def Gh.allocLoc (g : Gh) (d hs : Nat) : Gh := { g with l := fun j => if j = d then some hs else g.l j, o := fun cb => if cb = hs then some (.inr d) else g.o cb }
theorem Gh.allocLoc_ext (g : Gh) (d hs : Nat) : Ext g (g.allocLoc d hs) := ⟨fun _ _ h => h, fun _ _ h => h, fun _ _ h => h, fun _ _ => rfl⟩

theorem Locs.find_put (L : Locs) (d : Nat) (cs : List AV) (j : Nat) : (L.put d cs).find j = if j = d then some cs else L.find j := by
  induction L with
  | nil =>
    simp only [Locs.put, Locs.find]
    by_cases h : j = d
    · subst h; simp
    · rw [if_neg h]; simp; omega
  | cons x r ih =>
    obtain ⟨i, y⟩ := x
    simp only [Locs.put]
    by_cases hi : i = d
    · subst hi
      simp only [beq_self_eq_true, if_true, Locs.find]
      by_cases h : j = i
      · subst h; simp
      · rw [if_neg h]
        have : (i == j) = false := by simp; omega
        simp [this]
    · have : (i == d) = false := by simpa using hi
      simp only [this, Bool.false_eq_true, if_false, Locs.find]
      by_cases h : i = j
      · subst h; simp [hi]
      · have : (i == j) = false := by simpa using h
        simp only [this, Bool.false_eq_true, if_false, ih]

theorem Rel.allocLoc {g : Gh} {L : Locs} {H : Heap} {h : Array Obj} (R : Rel g L H h) {cs : List AV} {vs : List Value} {e : TypeId} (d : Nat)
    (hr : Reps g cs vs) (ho : ∀ v ∈ vs, v.oneCell' = true) :
    Rel (g.allocLoc d h.size) (L.put d cs) H (h.push (.cells ⟨vs⟩ e (0, 0))) := by
  have ex := Gh.allocLoc_ext g d h.size
  refine ⟨fun cb y hy => ?_, R.im, R.dom, fun b y hb => ?_, fun j c hj => ?_, fun cb y hy => ?_⟩
  · obtain ⟨a, b⟩ := R.fr cb y hy
    have hlt := some_lt a
    exact ⟨(push_old hlt).trans a, by simp only [Gh.allocLoc]; rw [if_neg (by omega)]; exact b⟩
  · obtain ⟨cb, base, tp, h1, h2, h3⟩ := R.blk b y hb
    have hlt := R.own cb _ h2
    exact ⟨cb, base, tp, h1, by simp only [Gh.allocLoc]; rw [if_neg (by omega)]; exact h2, (h3.of_heap (push_old hlt)).mono ex⟩
  · rw [Locs.find_put] at hj
    split at hj
    · rename_i hjd
      cases hj
      exact ⟨h.size, ⟨vs⟩, by simp [Gh.allocLoc, hjd], by simp [Gh.allocLoc, hjd], ⟨e, (0, 0), by simp, fun i _ => by omega⟩, hr.mono ex, ho⟩
    · rename_i hjd
      obtain ⟨cb, arr, h1, h2, h3, h4, h5⟩ := R.loc j c hj
      have hlt := R.own cb _ h2
      exact ⟨cb, arr, by simp only [Gh.allocLoc]; rw [if_neg hjd]; exact h1, by simp only [Gh.allocLoc]; rw [if_neg (by omega)]; exact h2, h3.of_heap (push_old hlt), h4.mono ex, h5⟩
  · simp only [Gh.allocLoc] at hy
    simp only [Array.size_push]
    split at hy
    · omega
    · have := R.own cb y hy; omega

theorem set_get {h : Array Obj} {cb cb' : Nat} {o : Obj} : (h.setIfInBounds cb o)[cb']? = if cb = cb' then (if cb < h.size then some o else none) else h[cb']? :=
  Array.getElem?_setIfInBounds

/-- A block is written. -/
theorem Rel.set {g : Gh} {L : Locs} {H : Heap} {h : Array Obj} (R : Rel g L H h) {b : Nat} {x : Blk} {o : Obj} {cb base top : Nat} (hρ : g.ρ b = some (cb, base, top)) (ho : g.o cb = some (.inl b))
    (hx : BlkOk g (h.setIfInBounds cb o) cb base top x) : Rel g L (H.set b x) (h.setIfInBounds cb o) := by
  have old : ∀ cb', cb' ≠ cb → (h.setIfInBounds cb o)[cb']? = h[cb']? := fun cb' hne => by rw [set_get, if_neg (fun e => hne e.symm)]
  refine ⟨fun cb' y hy => ?_, R.im, R.dom, fun b' y hb => ?_, fun j cs hj => ?_, fun cb' y hy => by simpa using R.own cb' y hy⟩
  · obtain ⟨a, c⟩ := R.fr cb' y hy
    exact ⟨(old cb' (fun e => by subst e; rw [ho] at c; cases c)).trans a, c⟩
  · rw [Heap.get_set] at hb
    split at hb
    · rename_i e
      subst e
      cases hb
      exact ⟨cb, base, top, hρ, ho, hx⟩
    · rename_i hne
      obtain ⟨cb', base', tp, h1, h2, h3⟩ := R.blk b' y hb
      exact ⟨cb', base', tp, h1, h2, h3.of_heap (old cb' (fun e => by subst e; rw [ho] at h2; cases h2; exact hne rfl))⟩
  · obtain ⟨cb', arr, h1, h2, h3, h4⟩ := R.loc j cs hj
    exact ⟨cb', arr, h1, h2, h3.of_heap (old cb' (fun e => by subst e; rw [ho] at h2; cases h2)), h4⟩

/-- A local block is written. -/
theorem Rel.setLoc {g : Gh} {L : Locs} {H : Heap} {h : Array Obj} (R : Rel g L H h) {d cb : Nat} {cs : List AV} {vs : List Value} {e : TypeId} {fz : Nat × Nat} (hl : g.l d = some cb) (ho : g.o cb = some (.inr d))
    (hr : Reps g cs vs) (h1 : ∀ v ∈ vs, v.oneCell' = true) (hf : ∀ i, i ≤ vs.length → ¬ (fz.1 ≤ i ∧ i < fz.2)) : Rel g (L.put d cs) H (h.setIfInBounds cb (.cells ⟨vs⟩ e fz)) := by
  have old : ∀ cb', cb' ≠ cb → (h.setIfInBounds cb (.cells ⟨vs⟩ e fz))[cb']? = h[cb']? := fun cb' hne => by rw [set_get, if_neg (fun e => hne e.symm)]
  have hlt := R.own cb _ ho
  refine ⟨fun cb' y hy => ?_, R.im, R.dom, fun b' y hb => ?_, fun j c hj => ?_, fun cb' y hy => by simpa using R.own cb' y hy⟩
  · obtain ⟨a, c⟩ := R.fr cb' y hy
    exact ⟨(old cb' (fun e => by subst e; rw [ho] at c; cases c)).trans a, c⟩
  · obtain ⟨cb', base', tp, a1, a2, a3⟩ := R.blk b' y hb
    exact ⟨cb', base', tp, a1, a2, a3.of_heap (old cb' (fun e => by subst e; rw [ho] at a2; cases a2))⟩
  · rw [Locs.find_put] at hj
    split at hj
    · rename_i ee
      subst ee
      cases hj
      exact ⟨cb, ⟨vs⟩, hl, ho, ⟨e, fz, by rw [set_get, if_pos rfl, if_pos hlt], by simpa using hf⟩, hr, h1⟩
    · rename_i hne
      obtain ⟨cb', arr, a1, a2, a3, a4⟩ := R.loc j c hj
      exact ⟨cb', arr, a1, a2, a3.of_heap (old cb' (fun e => by subst e; rw [ho] at a2; cases a2; exact hne rfl)), a4⟩

/-- A block is lost. -/
theorem Rel.kill {g : Gh} {L : Locs} {H : Heap} {h : Array Obj} (R : Rel g L H h) (b : Nat) : Rel g L (H.kill b) h :=
  ⟨R.fr, R.im, R.dom, fun b' y hb => by
    rw [Heap.get_kill] at hb
    split at hb
    · cases hb
    · exact R.blk b' y hb, R.loc, R.own⟩

/-- A block is lost, and what it was is another one's. -/
def Gh.turn (g : Gh) (n cb base top : Nat) : Gh := { g with ρ := fun b => if b = n then some (cb, base, top) else g.ρ b, o := fun c => if c = cb then some (.inl n) else g.o c }
theorem Gh.turn_ext {g : Gh} {L : Locs} {H : Heap} {h : Array Obj} (R : Rel g L H h) (cb base top : Nat) : Ext g (g.turn H.n cb base top) :=
  ⟨fun b x hb => by have := R.dom b x hb; simp only [Gh.turn]; rw [if_neg (by omega)]; exact hb, fun _ _ h => h, fun _ _ h => h, fun _ _ => rfl⟩
theorem Rel.turn {g : Gh} {L : Locs} {H : Heap} {h : Array Obj} (R : Rel g L H h) {b : Nat} {x : Blk} {o : Obj} {cb top : Nat} (ho : g.o cb = some (.inl b)) {base' : Nat}
    (hx : BlkOk (g.turn H.n cb base' top) (h.setIfInBounds cb o) cb base' top x) : Rel (g.turn H.n cb base' top) L ((H.kill b).alloc x) (h.setIfInBounds cb o) := by
  have e := Gh.turn_ext R cb base' top
  have old : ∀ cb', cb' ≠ cb → (h.setIfInBounds cb o)[cb']? = h[cb']? := fun cb' hne => by rw [set_get, if_neg (fun e => hne e.symm)]
  have hlt := R.own cb _ ho
  refine ⟨fun cb' y hy => ?_, R.im, fun b' y hb => ?_, fun b' y hb => ?_, fun j cs hj => ?_, fun cb' y hy => ?_⟩
  · obtain ⟨a, c⟩ := R.fr cb' y hy
    have hne : cb' ≠ cb := fun e => by subst e; rw [ho] at c; cases c
    exact ⟨(old cb' hne).trans a, by simp only [Gh.turn]; rw [if_neg hne]; exact c⟩
  · simp only [Gh.turn] at hb
    simp only [Heap.alloc, Heap.kill]
    split at hb
    · omega
    · have := R.dom b' y hb; omega
  · rw [Heap.get_alloc, Heap.get_kill] at hb
    have hkn : (H.kill b).n = H.n := rfl
    rw [hkn] at hb
    split at hb
    · rename_i hbn
      cases hb
      exact ⟨cb, base', top, by simp [Gh.turn, hbn], by simp [Gh.turn, hbn], hx⟩
    · split at hb
      · cases hb
      · rename_i hbn hbb
        obtain ⟨cb', base2, tp, h1, h2, h3⟩ := R.blk b' y hb
        have hne : cb' ≠ cb := fun e => by subst e; rw [ho] at h2; cases h2; exact hbb rfl
        exact ⟨cb', base2, tp, e.ρ _ _ h1, by simp only [Gh.turn]; rw [if_neg hne]; exact h2, (h3.of_heap (old cb' hne)).mono e⟩
  · obtain ⟨cb', arr, h1, h2, h3, h4, h5⟩ := R.loc j cs hj
    have hne : cb' ≠ cb := fun e => by subst e; rw [ho] at h2; cases h2
    exact ⟨cb', arr, h1, by simp only [Gh.turn]; rw [if_neg hne]; exact h2, h3.of_heap (old cb' hne), h4.mono e, h5⟩
  · simp only [Gh.turn] at hy
    simp only [Array.size_setIfInBounds]
    split at hy
    · rename_i e; subst e; exact hlt
    · exact R.own cb' y hy

end Go.Proofs.YtnhblghplohonaaGreatDoor.Ab
