/- The abstract machine: new lists, structs, maps. (Laws.) -/
import Derived.Test.YtnhblghplohonaaGreatDoorAbG
import Derived.MapKept
set_option linter.unusedSimpArgs false
set_option linter.unusedVariables false
namespace Go.Proofs.YtnhblghplohonaaGreatDoor.Ab
open Go

/- ### What is filled -/
theorem foldl_over : ∀ (vs : List Value) (k : Nat) (off : Nat) (arr : Array Value), off + k + vs.length ≤ arr.size →
    (vs.zipIdx k).foldl (fun cs (x : Value × Nat) => cs.setIfInBounds (off + x.2) x.1) arr = ⟨overL arr.toList (off + k) vs⟩
  | [], k, off, arr, _ => by simp [overL]
  | v :: vs, k, off, arr, h => by
    simp only [List.length_cons] at h
    simp only [List.zipIdx_cons, List.foldl_cons]
    rw [foldl_over vs (k + 1) off _ (by simp; omega)]
    apply congrArg Array.mk
    apply List.ext_getElem?
    intro j
    rw [overL_get (by simp; omega), overL_get (by simp; omega)]
    simp only [Array.toList_setIfInBounds, List.length_cons]
    by_cases hk : j < off + k
    · rw [if_pos (show j < off + (k + 1) by omega), if_pos hk, List.getElem?_set, if_neg (by omega)]
    · by_cases hk2 : j = off + k
      · subst hk2
        rw [if_pos (show off + k < off + (k + 1) by omega), if_neg hk, if_pos (show off + k < off + k + (vs.length + 1) by omega), List.getElem?_set, if_pos rfl, if_pos (by simp; omega)]
        simp
      · rw [if_neg (show ¬ j < off + (k + 1) by omega), if_neg hk]
        by_cases hk3 : j < off + (k + 1) + vs.length
        · rw [if_pos hk3, if_pos (show j < off + k + (vs.length + 1) by omega)]
          obtain ⟨q, rfl⟩ : ∃ q, j = off + k + 1 + q := ⟨j - (off + k + 1), by omega⟩
          rw [show off + k + 1 + q - (off + (k + 1)) = q by omega, show off + k + 1 + q - (off + k) = q + 1 by omega]
          rfl
        · rw [if_neg hk3, if_neg (show ¬ j < off + k + (vs.length + 1) by omega), List.getElem?_set, if_neg (by omega)]

/-- Parts and what they stand for. -/
inductive PartsRep (g : Gh) : List (Nat × AV) → List (Nat × Value) → Prop
  | nil : PartsRep g [] []
  | cons {i : Nat} {a : AV} {v : Value} {l : List (Nat × AV)} {m : List (Nat × Value)} (h : Rep g a v) (t : PartsRep g l m) : PartsRep g ((i, a) :: l) ((i, v) :: m)

theorem fill_sound {g : Gh} {pl pl' : Nat → Option (Nat × Nat)} (hpl : ∀ i x, pl i = some x → pl' i = some x) : ∀ {ps : List (Nat × AV)} {pvs : List (Nat × Value)} {cs cs' : List AV} {vs : List Value},
    PartsRep g ps pvs → Reps g cs vs → (∀ v ∈ vs, v.oneCell' = true) → M.fill pl cs ps = .ok cs' →
    ∃ vs' : List Value, Instr.fill pl' ⟨vs⟩ pvs = some ⟨vs'⟩ ∧ Reps g cs' vs' ∧ (∀ v ∈ vs', v.oneCell' = true)
  | _, _, cs, cs', vs, .nil, hr, ho, h => by
    simp only [M.fill] at h; cases h; exact ⟨vs, rfl, hr, ho⟩
  | _, _, cs, cs', vs, .cons (i := i) (a := a) (v := v) hv ht, hr, ho, h => by
    simp only [M.fill] at h
    cases hp : pl i with
    | none => rw [hp] at h; cases h
    | some x =>
      obtain ⟨off, sz⟩ := x
      rw [hp] at h
      simp only at h
      obtain ⟨c1, hs, h2⟩ := Out.bind_ok h
      obtain ⟨a1, a2, a3, rfl⟩ := stc_ok hs
      have hc := hv.cells
      have hcl := hc.1
      simp only [Array.length_toList] at hcl
      have hl := hr.1
      have hov := over_cells (g := g) (cs := cs) (new := a.cells) (arr := ⟨vs⟩) (base := 0) (off := off) (fun j c hj => by
        obtain ⟨u, hu, hru⟩ := hr.get hj
        exact ⟨u, by simpa using hu, hru, ho u (List.mem_of_getElem? hu)⟩) hc (hv.cells_one a1) (by omega) (by simp; omega)
      have hol : (overL vs off v.cells.toList).length = (M.over cs off a.cells).length := by
        rw [overL_length (by simp; omega), over_length (by omega)]; omega
      have hr2 : Reps g (M.over cs off a.cells) (overL vs off v.cells.toList) := ⟨hol.symm, fun j c u hj hu => by
        obtain ⟨u', hu', hru, _⟩ := hov j c hj
        simp only [Nat.zero_add, List.getElem?_toArray] at hu'
        rw [hu] at hu'; cases hu'; exact hru⟩
      have ho2 : ∀ u ∈ overL vs off v.cells.toList, u.oneCell' = true := fun u hu => by
        obtain ⟨j, hj, rfl⟩ := List.getElem_of_mem hu
        obtain ⟨u', hu', _, hone⟩ := hov j _ (List.getElem?_eq_getElem (by rw [← hol]; exact hj))
        simp only [Nat.zero_add, List.getElem?_toArray, List.getElem?_eq_getElem hj] at hu'
        cases hu'; exact hone
      obtain ⟨vs', b1, b2, b3⟩ := fill_sound hpl ht hr2 ho2 h2
      refine ⟨vs', ?_, b2, b3⟩
      have hz : (v.cells.zipIdx.foldl (fun (cs : Array Value) (x : Value × Nat) => cs.setIfInBounds (off + x.2) x.1) ⟨vs⟩) = ⟨overL vs off v.cells.toList⟩ := by
        rw [← Array.foldl_toList, Array.toList_zipIdx]
        have := foldl_over v.cells.toList 0 off ⟨vs⟩ (by simp; omega)
        simpa using this
      have hc1 : (v.cells.size ≠ sz || off + v.cells.size > (Array.mk vs).size) = false := by
        simp only [ne_eq, List.size_toArray, Bool.or_eq_false_iff, decide_eq_false_iff_not, Decidable.not_not, Nat.not_lt, gt_iff_lt]
        omega
      unfold Instr.fill
      rw [hpl i _ hp]
      simp only [hc1, Bool.false_eq_true, if_false]
      rw [hz]
      exact b1

/- ### make -/
theorem makeSlice_sound {P : Program} {g : Gh} {L : Locs} {H H' : Heap} {w : World} (R : Rel g L H w.heap) {t : TypeId} {ti te : TI} {e : Nat} (ht : tiOf P t = some ti) (hk : ti.k = .slice e) (he : tiOf P e = some te) {z : AV} (hz : te.zero = some z)
    {zc : List AV} (hzc : M.cellsT z = .ok zc) {l c r : AV} {vl vc : Value} (hl : Rep g l vl) (hc : Rep g c vc) (h : M.makeSlice e te.sz te.bytes zc l c H = .ok (r, H')) :
    ∃ q w' g', (Instr.makeSlice t vl vc).run P w = .ok q w' ∧ Keep w w' ∧ Ext g g' ∧ (∀ j y, g.l j = some y → g'.l j = some y) ∧ Rel g' L H' w'.heap ∧ Rep g' r q := by
  obtain ⟨d1, i1, hu1, _, hkk1, _⟩ := ti_facts ht
  rw [hk] at hkk1
  obtain rfl := tk_slice hkk1
  obtain ⟨_, ie, _, hie, _, _, hsz, hby, hzero⟩ := ti_facts he
  rw [hzero] at hz
  obtain ⟨zv, hzv, hzr⟩ : ∃ zv, ie.zero = some zv ∧ ofV zv = some z := by
    cases hq : ie.zero with
    | none => rw [hq] at hz; cases hz
    | some q => rw [hq] at hz; exact ⟨q, rfl, hz⟩
  have hzrep := rep_ofV (g := g) hzr
  obtain ⟨hone, rfl⟩ : z.one = true ∧ zc = z.cells := by
    unfold M.cellsT at hzc; split at hzc <;> cases hzc; exact ⟨by assumption, rfl⟩
  have hzcells := hzrep.cells
  have hzone := hzrep.cells_one hone
  unfold M.makeSlice at h
  cases hl with
  | int k n =>
    cases hc with
    | int k' m =>
      simp only at h
      split at h
      · rename_i hh
        obtain ⟨h0, h1, h2, h3, h4, h5⟩ := hh
        cases h
        have hm46 : M.most = 2 ^ 46 := rfl
        rw [hm46] at h2 h3
        have hwn : IntKind.i64.wrap n = n := by
          have : IntKind.i64.wrap n = (let q := n % (2 ^ 64 : Int); if true && q ≥ (2 ^ 63 : Int) then q - (2 ^ 64 : Int) else q) := rfl
          rw [this]; simp only [Bool.true_and, decide_eq_true_eq, ge_iff_le]; split <;> omega
        have hwm : IntKind.i64.wrap m = m := by
          have : IntKind.i64.wrap m = (let q := m % (2 ^ 64 : Int); if true && q ≥ (2 ^ 63 : Int) then q - (2 ^ 64 : Int) else q) := rfl
          rw [this]; simp only [Bool.true_and, decide_eq_true_eq, ge_iff_le]; split <;> omega
        have hzsz : zv.cells.size = ie.size := by have := hzcells.1; simp at this; omega
        have hbm : ¬ ((m < 0 || (ie.bytes : Int) * m > 2 ^ 48) = true) := by
          rw [hby] at h2
          rw [Int.mul_comm] at h2
          simp only [Bool.or_eq_true, decide_eq_true_eq]; omega
        have hcond : ((m < 0 || decide ((ie.bytes : Int) * m > 2 ^ 48)) || decide (n < 0) || decide (n > m)) = false := by
          simp only [Bool.or_eq_false_iff, decide_eq_false_iff_not]
          simp only [Bool.or_eq_true, decide_eq_true_eq] at hbm
          omega
        have hne : m.toNat * ie.size = 0 ∨ ¬ m.toNat * ie.size = 0 := by omega
        let arr : Array Value := (Array.range (m.toNat * ie.size)).map (fun i => zv.cells[i % zv.cells.size]!)
        have harrs : arr.size = m.toNat * ie.size := by simp [arr]
        have hrun : (Instr.makeSlice t (.int k n) (.int k' m)).run P w = .ok (.slice (some ⟨w.heap.size, 0, none⟩) n.toNat m.toNat) { w with heap := w.heap.push (.cells arr e) } := by
          simp only [Instr.makeSlice, asInt, asIntOf, Sem.run_bind, run_und hu1, Result.andThen_ok, Sem.run_pure, run_info hie, hwn, hwm]
          have hc' : ((decide (m < 0) || decide ((ie.bytes : Int) * m > 2 ^ 48)) || decide (n < 0) || decide (n > m)) = false := hcond
          simp only [hc', Bool.false_eq_true, if_false, Sem.run_bind, Sem.run_pure, Result.andThen_ok, run_askRoom, run_size hie]
          by_cases hz0 : m.toNat * ie.size = 0
          · simp only [hz0, if_true, Sem.run_pure, Result.andThen_ok, newRow, Sem.run_bind, run_newObj]
            have : arr = #[] := by apply Array.eq_empty_of_size_eq_zero; rw [harrs, hz0]
            rw [this]; simp [show Array.range 0 = #[] from rfl]
          · simp only [hz0, if_false, Sem.run_bind, run_zero hie hzv, Sem.run_pure, Result.andThen_ok, newRow, run_newObj]
            rfl
        have hflat : ∀ (q : Nat) (j : Nat) (x : AV), ((List.replicate q z.cells).flatten)[j]? = some x → z.cells[j % te.sz]? = some x ∧ j < q * te.sz := by
          intro q
          induction q with
          | zero => intro j x hx; simp at hx
          | succ q ih =>
            intro j x hx
            rw [List.replicate_succ, List.flatten_cons] at hx
            by_cases hj : j < te.sz
            · rw [List.getElem?_append_left (by omega)] at hx
              exact ⟨by rw [Nat.mod_eq_of_lt hj]; exact hx, by rw [Nat.add_mul]; omega⟩
            · rw [List.getElem?_append_right (by omega), h5] at hx
              obtain ⟨a, b⟩ := ih _ x hx
              refine ⟨by rw [show j % te.sz = (j - te.sz) % te.sz by rw [← Nat.add_mod_right (j - te.sz)]; congr 1; omega]; exact a, by rw [Nat.add_mul]; omega⟩
        have hlenf : ((List.replicate m.toNat z.cells).flatten).length = m.toNat * te.sz := by simp [h5]
        have hreps : Reps g ((List.replicate m.toNat z.cells).flatten) arr.toList := ⟨by rw [hlenf]; simp [harrs, hsz], fun j x v hx hv => by
          obtain ⟨a, b⟩ := hflat _ j x hx
          obtain ⟨u, hu, hru⟩ := hzcells.get a
          have : arr[j]? = some u := by
            simp only [arr, Array.getElem?_map]
            rw [Array.getElem?_range]
            have hj : j < m.toNat * ie.size := by rw [← hsz]; exact b
            rw [if_pos hj]
            simp only [Option.map_some]
            have : zv.cells[j % zv.cells.size]? = some u := by rw [hzsz, ← hsz]; simpa using hu
            rw [getElem!_def, this]
          simp only [Array.getElem?_toList] at hv
          rw [this] at hv; cases hv; exact hru⟩
        have honea : ∀ v ∈ arr.toList, v.oneCell' = true := by
          intro v hv
          obtain ⟨j, hj, rfl⟩ := List.getElem_of_mem hv
          have hjl : j < ((List.replicate m.toNat z.cells).flatten).length := by rw [hreps.1]; exact hj
          obtain ⟨a, b⟩ := hflat _ j _ (List.getElem?_eq_getElem hjl)
          obtain ⟨u, hu, hru⟩ := hzcells.get a
          have : arr[j]? = some u := by
            simp only [arr, Array.getElem?_map]
            rw [Array.getElem?_range]
            have hj : j < m.toNat * ie.size := by rw [← hsz]; exact b
            rw [if_pos hj]
            simp only [Option.map_some]
            have : zv.cells[j % zv.cells.size]? = some u := by rw [hzsz, ← hsz]; simpa using hu
            rw [getElem!_def, this]
          have h2 : arr.toList[j]? = some u := by simpa using this
          rw [List.getElem?_eq_getElem hj] at h2
          cases h2
          exact hzone _ (List.mem_of_getElem? hu)
        refine ⟨_, _, g.alloc H.n w.heap.size arr.size, hrun, ⟨rfl, rfl⟩, Gh.alloc_ext R _, fun _ _ h => h, ?_, ?_⟩
        · exact R.alloc (e := e) (e' := e) (fz := (0, 0)) hreps honea (fun j hj => by simp) (by simp) (fun i _ => by omega)
        · refine .sl (cb := w.heap.size) (base := 0) (top := arr.size) (by simp [Gh.alloc]) (by omega) (fun _ => ⟨by simp, by rw [harrs, hsz]; omega⟩)
      · cases h
    | _ => cases h
  | _ => cases h

/- ### Maps -/
theorem isKey_kind {P : Program} {kt : TypeId} {x : AV} (h : M.isKey P kt x = true) : ∃ d, P.underlying kt = some d ∧ ((∃ k, d = .int k) ∨ d = .string ∨ d = .bool) ∧
    ((∃ k n, x = .int k n ∧ ∃ k', d = .int k') ∨ (∃ l, x = .str l ∧ d = .string) ∨ (∃ b, x = .bool b ∧ d = .bool)) := by
  unfold M.isKey at h
  cases hd : P.underlying kt with
  | none => rw [hd] at h; cases h
  | some d =>
    rw [hd] at h
    refine ⟨d, rfl, ?_⟩
    cases d <;> cases x <;> first | (cases h; done) | simp
theorem keyEq_same {g : Gh} {x k : AV} {b : Bool} {vx vk : Value} {d : TypeDesc} (hx : Rep g x vx) (hk : Rep g k vk) (h : M.keyEq x k = some b)
    (hd : (∃ k n, x = .int k n ∧ ∃ k', d = .int k') ∨ (∃ l, x = .str l ∧ d = .string) ∨ (∃ b, x = .bool b ∧ d = .bool)) : Instr.sameNow d vx vk = some b := by
  unfold M.keyEq at h
  rcases hd with ⟨k1, n, rfl, k', rfl⟩ | ⟨l, rfl, rfl⟩ | ⟨b', rfl, rfl⟩
  · cases k <;> try (cases h; done)
    cases hx; cases hk
    simp only at h
    split at h
    · rename_i e; subst e; cases h; simp [Instr.sameNow]
    · cases h
  · cases k <;> try (cases h; done)
    cases hx; cases hk
    cases h
    simp only [Instr.sameNow, Option.some.injEq]
    rename_i l2
    rw [Bool.eq_iff_iff]
    simp [MapKept.bytes_beq]
  · cases k <;> try (cases h; done)
    cases hx; cases hk
    cases h
    simp [Instr.sameNow]

/-- Entries and what they stand for. -/
def Ents (g : Gh) (kvs : List (AV × AV)) (es : List MapEntry) : Prop := es.length = kvs.length ∧ ∀ (i : Nat) (p : AV × AV), kvs[i]? = some p → ∃ e : MapEntry, es[i]? = some e ∧ Rep g p.1 e.key ∧ Rep g p.2 e.val
theorem Ents.tail {g : Gh} {p : AV × AV} {kvs : List (AV × AV)} {e : MapEntry} {es : List MapEntry} (h : Ents g (p :: kvs) (e :: es)) : Ents g kvs es ∧ Rep g p.1 e.key ∧ Rep g p.2 e.val := by
  refine ⟨⟨by have := h.1; simpa using this, fun i q hq => h.2 (i + 1) q hq⟩, ?_⟩
  obtain ⟨e', he, a, b⟩ := h.2 0 p rfl
  cases he; exact ⟨a, b⟩
theorem Ents.cons {g : Gh} {p : AV × AV} {kvs : List (AV × AV)} {e : MapEntry} {es : List MapEntry} (h : Ents g kvs es) (hk : Rep g p.1 e.key) (hv : Rep g p.2 e.val) : Ents g (p :: kvs) (e :: es) :=
  ⟨by simp [h.1], fun i q hq => by
    cases i with
    | zero => cases hq; exact ⟨e, rfl, hk, hv⟩
    | succ i => exact h.2 i q hq⟩

theorem mapGet_sound {g : Gh} {d : TypeDesc} {x : AV} {vx : Value} (hx : Rep g x vx)
    (hd : (∃ k n, x = .int k n ∧ ∃ k', d = .int k') ∨ (∃ l, x = .str l ∧ d = .string) ∨ (∃ b, x = .bool b ∧ d = .bool)) : ∀ {kvs : List (AV × AV)} {es : List MapEntry} {r : Option AV} (i : Nat), Ents g kvs es → M.mapGet x kvs = .ok r →
    match r with
    | none => Instr.findNow d vx es i = some none
    | some a => ∃ j v, Instr.findNow d vx es i = some (some (j, v)) ∧ Rep g a v
  | [], es, r, i, he, h => by
    simp only [M.mapGet] at h; cases h
    have := he.1; simp at this; subst this
    rfl
  | (k, a) :: kvs, es, r, i, he, h => by
    cases es with
    | nil => have := he.1; simp at this
    | cons e es =>
      obtain ⟨ht, hk, hv⟩ := he.tail
      simp only [M.mapGet] at h
      cases hke : M.keyEq x k with
      | none => rw [hke] at h; cases h
      | some b =>
        rw [hke] at h
        have hs := keyEq_same hx hk hke hd
        cases b with
        | true => cases h; exact ⟨i, e.val, by simp only [Instr.findNow, hs], hv⟩
        | false =>
          have := mapGet_sound hx hd (i + 1) ht h
          simp only [Instr.findNow, hs]
          exact this

theorem mapPut_sound {g : Gh} {d : TypeDesc} {x a : AV} {vx va : Value} (hx : Rep g x vx) (ha : Rep g a va)
    (hd : (∃ k n, x = .int k n ∧ ∃ k', d = .int k') ∨ (∃ l, x = .str l ∧ d = .string) ∨ (∃ b, x = .bool b ∧ d = .bool)) : ∀ {kvs kvs' : List (AV × AV)} {es : List MapEntry} (i : Nat), Ents g kvs es → M.mapPut x a kvs = .ok kvs' →
    (∃ j v, Instr.findNow d vx es i = some (some (i + j, v)) ∧ (∃ e, es[j]? = some e ∧ Instr.sameNow d vx e.key = some true) ∧ Ents g kvs' (es.modify j fun e => { e with key := vx, val := va })) ∨
    (Instr.findNow d vx es i = some none ∧ ∀ c, Ents g kvs' (es ++ [{ key := vx, val := va, born := c }]))
  | [], kvs', es, i, he, h => by
    simp only [M.mapPut] at h; cases h
    have := he.1; simp at this; subst this
    exact .inr ⟨rfl, fun c => (Ents.cons (e := { key := vx, val := va, born := c }) ⟨rfl, fun i p hp => by simp at hp⟩ hx ha : Ents g [(x, a)] _)⟩
  | (k, b) :: kvs, kvs', es, i, he, h => by
    cases es with
    | nil => have := he.1; simp at this
    | cons e es =>
      obtain ⟨ht, hk, hv⟩ := he.tail
      simp only [M.mapPut] at h
      cases hke : M.keyEq x k with
      | none => rw [hke] at h; cases h
      | some q =>
        rw [hke] at h
        have hs := keyEq_same hx hk hke hd
        cases q with
        | true =>
          cases h
          exact .inl ⟨0, e.val, by simp only [Instr.findNow, hs, Nat.add_zero], ⟨e, rfl, hs⟩, by simp only [List.modify_zero_cons]; exact ht.cons (p := (x, a)) hx ha⟩
        | false =>
          obtain ⟨r, h1, h2⟩ := Out.bind_ok h
          cases h2
          rcases mapPut_sound hx ha hd (i + 1) ht h1 with ⟨j, v, a1, ⟨e', a2, a3⟩, a4⟩ | ⟨a1, a2⟩
          · refine .inl ⟨j + 1, v, by simp only [Instr.findNow, hs]; rw [a1]; congr 3; omega, ⟨e', a2, a3⟩, ?_⟩
            simp only [List.modify_succ_cons]
            exact a4.cons (p := (k, b)) hk hv
          · exact .inr ⟨by simp only [Instr.findNow, hs]; exact a1, fun c => by simp only [List.cons_append]; exact (a2 c).cons (p := (k, b)) hk hv⟩

theorem checkKey_kind {P : Program} {kt : TypeId} {d : TypeDesc} (hu : P.underlying kt = some d) (hd : (∃ k, d = .int k) ∨ d = .string ∨ d = .bool) (em : Bool) (v : Value) (w : World) : ∀ n, (Instr.checkKey em (n + 1) kt v).run P w = .ok () w := fun n => by
  rcases hd with ⟨k, rfl⟩ | rfl | rfl <;> simp only [Instr.checkKey, Sem.run_bind, run_und hu, Result.andThen_ok] <;> rfl

theorem lookup_sound {P : Program} {g : Gh} {L : Locs} {H : Heap} {w : World} (R : Rel g L H w.heap) {t : TypeId} {ti te : TI} {kt e : Nat} (ht : tiOf P t = some ti) (hk : ti.k = .map kt e) (he : tiOf P e = some te) {z : AV} (hz : te.zero = some z)
    {cok : Bool} {m key r : AV} {vm vk : Value} (hm : Rep g m vm) (hkey : Rep g key vk) (h : M.lookup P kt z cok m key H = .ok r) : ∃ q, (Instr.lookup t vm vk cok).run P w = .ok q w ∧ Rep g r q := by
  obtain ⟨d1, i1, hu1, _, hkk1, _⟩ := ti_facts ht
  rw [hk] at hkk1
  obtain rfl := tk_map hkk1
  obtain ⟨_, ie, _, hie, _, _, hsz, hby, hzero⟩ := ti_facts he
  rw [hzero] at hz
  obtain ⟨zv, hzv, hzr⟩ : ∃ zv, ie.zero = some zv ∧ ofV zv = some z := by
    cases hq : ie.zero with
    | none => rw [hq] at hz; cases hz
    | some q => rw [hq] at hz; exact ⟨q, rfl, hz⟩
  unfold M.lookup at h
  split at h
  · cases h
  · rename_i hik
    have hik' : M.isKey P kt key = true := by simpa using hik
    obtain ⟨d, hud, hd1, hd2⟩ := isKey_kind hik'
    obtain ⟨res, h1, h2⟩ := Out.bind_ok h
    clear h
    -- the entries
    have ents : ∃ (es : Array MapEntry) (kvs : List (AV × AV)), Ents g kvs es.toList ∧ M.mapGet key kvs = .ok res ∧
        ((vm = .map none ∧ es = #[]) ∨ ∃ cb clock, vm = .map (some cb) ∧ w.heap[cb]? = some (.map es clock)) := by
      split at h1
      · rename_i b
        cases hm with
        | mp hρ =>
          cases hb : H.get b with
          | none => rw [hb] at h1; cases h1
          | some y =>
            rw [hb] at h1
            cases y with
            | cells _ _ => cases h1
            | map kvs =>
              obtain ⟨cb', base', top', q1, q2, es, clock, q3, q4, q5⟩ := R.blk b _ hb
              rw [hρ] at q1; cases q1
              exact ⟨es, kvs, ⟨by simpa using q4, fun i p hp => by simpa using q5 i p hp⟩, h1, .inr ⟨_, clock, rfl, q3⟩⟩
      · cases hm
        cases h1
        exact ⟨#[], [], ⟨rfl, fun i p hp => by simp at hp⟩, rfl, .inl ⟨rfl, rfl⟩⟩
      · cases h1
    obtain ⟨es, kvs, he1, he2, he3⟩ := ents
    have hfind := mapGet_sound hkey hd2 0 he1 he2
    have hck := checkKey_kind hud hd1 es.isEmpty vk w 9999
    have hmap : ∀ (k : Array MapEntry → Sem Value), (do
        let es ← match vm with
          | .map none => pure #[]
          | .map (some r) => do
            let .map es _ ← getObj r | stuck "Lookup: map expected"
            pure es
          | _ => stuck "Lookup: map expected"
        k es : Sem Value).run P w = (k es).run P w := by
      intro k
      rcases he3 with ⟨rfl, rfl⟩ | ⟨cb, clock, rfl, hcb⟩
      · simp only [Sem.run_bind, Sem.run_pure, Result.andThen_ok]
      · simp only [Sem.run_bind, MapKept.run_getObj_map hcb, Result.andThen_ok, Sem.run_pure]
    cases res with
    | none =>
      simp only at hfind
      cases h2
      refine ⟨if cok then .tuple #[zv, .bool false] else zv, ?_, ?_⟩
      · simp only [Instr.lookup, Sem.run_bind, run_und hu1, Result.andThen_ok]
        rcases he3 with ⟨rfl, rfl⟩ | ⟨cb, clock, rfl, hcb⟩
        · simp only [Sem.run_pure, Result.andThen_ok, hck, Instr.findKey, Sem.run_bind, run_und hud, hfind, run_zero hie hzv]
        · simp only [Sem.run_bind, MapKept.run_getObj_map hcb, Sem.run_pure, Result.andThen_ok, hck, Instr.findKey, run_und hud, hfind, run_zero hie hzv]
      · cases cok
        · exact rep_ofV hzr
        · exact .tup rfl (Reps.cons (rep_ofV hzr) (.one (.bool false))).2
    | some a =>
      obtain ⟨j, v, hf, hrv⟩ := hfind
      cases h2
      refine ⟨if cok then .tuple #[v, .bool true] else v, ?_, ?_⟩
      · simp only [Instr.lookup, Sem.run_bind, run_und hu1, Result.andThen_ok]
        rcases he3 with ⟨rfl, rfl⟩ | ⟨cb, clock, rfl, hcb⟩
        · simp only [Sem.run_pure, Result.andThen_ok, hck, Instr.findKey, Sem.run_bind, run_und hud, hf]
        · simp only [Sem.run_bind, MapKept.run_getObj_map hcb, Sem.run_pure, Result.andThen_ok, hck, Instr.findKey, run_und hud, hf]
      · cases cok
        · exact hrv
        · exact .tup rfl (Reps.cons hrv (.one (.bool true))).2

theorem sameNow_bits {d : TypeDesc} {a b : Value} (h : Instr.sameNow d a b = some true) : Instr.sameBits 10000 b a = true ∧ True := by
  unfold Instr.sameNow at h
  split at h
  · split at h
    · rename_i e; subst e; simp at h; subst h; exact ⟨by show Instr.sameBits (9999 + 1) _ _ = true; simp [Instr.sameBits], trivial⟩
    · cases h
  · simp [MapKept.bytes_beq] at h; subst h; exact ⟨by show Instr.sameBits (9999 + 1) _ _ = true; simp [Instr.sameBits, MapKept.bytes_beq], trivial⟩
  · simp at h; subst h; exact ⟨by show Instr.sameBits (9999 + 1) _ _ = true; simp [Instr.sameBits], trivial⟩
  · cases h

theorem mapUpdate_sound {P : Program} {g : Gh} {L : Locs} {H H' : Heap} {w : World} (R : Rel g L H w.heap) {t : TypeId} {ti : TI} {kt e : Nat} (ht : tiOf P t = some ti) (hk : ti.k = .map kt e)
    {m key x : AV} {vm vk vx : Value} (hm : Rep g m vm) (hkey : Rep g key vk) (hx : Rep g x vx) (h : M.mapUpdate P kt m key x H = .ok H') : ∃ w', (Instr.mapUpdate t vm vk vx).run P w = .ok () w' ∧ Keep w w' ∧ Rel g L H' w'.heap := by
  obtain ⟨d1, i1, hu1, _, hkk1, _⟩ := ti_facts ht
  rw [hk] at hkk1
  obtain rfl := tk_map hkk1
  unfold M.mapUpdate at h
  cases hm with
  | mp hρ =>
    rename_i b cb base top
    simp only at h
    cases hb : H.get b with
    | none => rw [hb] at h; cases h
    | some y =>
      rw [hb] at h
      cases y with
      | cells _ _ => cases h
      | map kvs =>
        simp only at h
        split at h
        · rename_i hik
          obtain ⟨kvs', h1, h2⟩ := Out.bind_ok h
          cases h2
          obtain ⟨d, hud, hd1, hd2⟩ := isKey_kind hik
          obtain ⟨cb', base', top', q1, q2, es, clock, q3, q4, q5⟩ := R.blk b _ hb
          rw [hρ] at q1; cases q1
          have he : Ents g kvs es.toList := ⟨by simpa using q4, fun i p hp => by simpa using q5 i p hp⟩
          have hck := checkKey_kind hud hd1 false vk w 9999
          have hlt := some_lt q3
          rcases mapPut_sound hkey hx hd2 0 he h1 with ⟨j, v, a1, ⟨e', a2, a3⟩, a4⟩ | ⟨a1, a2⟩
          · rw [Nat.zero_add] at a1
            have hej : es[j]? = some e' := by simpa using a2
            have hbits := (sameNow_bits a3).1
            refine ⟨{ w with heap := w.heap.setIfInBounds cb (.map (es.modify j fun e => { e with key := vk, val := vx }) clock) }, ?_, ⟨rfl, rfl⟩, ?_⟩
            · simp only [Instr.mapUpdate, Sem.run_bind, run_und hu1, Result.andThen_ok, MapKept.run_getObj_map q3, hck, Instr.findKey, run_und hud, a1, Sem.run_pure, hej, Option.map_some, Option.getD_some, Instr.keyThatStays, hbits, if_true]
              exact MapKept.run_setObj_map _ q3
            · refine R.set hρ q2 ⟨_, clock, by rw [set_get, if_pos rfl, if_pos hlt], ?_, ?_⟩
              · have := a4.1; simpa using this
              · intro i p hp
                obtain ⟨e2, b1, b2⟩ := a4.2 i p hp
                refine ⟨e2, ?_, b2⟩
                rw [← Array.getElem?_toList, Array.toList_modify]; exact b1
          · refine ⟨{ w with heap := w.heap.setIfInBounds cb (.map (es.push { key := vk, val := vx, born := clock }) (clock + 1)) }, ?_, ⟨rfl, rfl⟩, ?_⟩
            · simp only [Instr.mapUpdate, Sem.run_bind, run_und hu1, Result.andThen_ok, MapKept.run_getObj_map q3, hck, Instr.findKey, run_und hud, a1, Sem.run_pure]
              exact MapKept.run_setObj_map _ q3
            · have a2' := a2 clock
              refine R.set hρ q2 ⟨_, clock + 1, by rw [set_get, if_pos rfl, if_pos hlt], ?_, ?_⟩
              · have := a2'.1; simpa using this
              · intro i p hp
                obtain ⟨e2, b1, b2⟩ := a2'.2 i p hp
                refine ⟨e2, ?_, b2⟩
                rw [← Array.getElem?_toList, Array.toList_push]; exact b1
        · cases h
  | _ => cases h

end Go.Proofs.YtnhblghplohonaaGreatDoor.Ab
