/- The abstract machine: each operation on values does what the model's does. (Laws.) -/
import Derived.Test.YtnhblghplohonaaGreatDoorAbD
set_option linter.unusedSimpArgs false
set_option linter.unusedVariables false
namespace Go.Proofs.YtnhblghplohonaaGreatDoor.Ab
open Go

/- ### Parts of types -/
theorem fisOf_get {P : Program} : ∀ {l : List Field} {fs : List FI} {i : Nat} {x : FI}, fisOf P l = some fs → fs[i]? = some x → ∃ f, l[i]? = some f ∧ fiOf P f = some x
  | [], fs, i, x, h, hx => by simp [fisOf] at h; subst h; simp at hx
  | f :: l, fs, i, x, h, hx => by
    simp only [fisOf] at h
    cases h1 : fiOf P f with
    | none => rw [h1] at h; cases h
    | some y =>
      cases h2 : fisOf P l with
      | none => rw [h1, h2] at h; cases h
      | some ys =>
        rw [h1, h2] at h; cases h
        cases i with
        | zero => simp at hx; subst hx; exact ⟨f, rfl, h1⟩
        | succ i => simp at hx; obtain ⟨f', a, b⟩ := fisOf_get h2 hx; exact ⟨f', by simpa using a, b⟩
theorem fi_facts {P : Program} {f : Field} {x : FI} (h : fiOf P f = some x) : ∃ d i, P.underlying f.type = some d ∧ P.info? f.type = some i ∧ x = (f.offset, i.size, isAggD d) := by
  unfold fiOf at h
  cases hd : P.underlying f.type with
  | none => rw [hd] at h; cases h
  | some d =>
    cases hi : P.info? f.type with
    | none => rw [hd, hi] at h; cases h
    | some i => rw [hd, hi] at h; cases h; exact ⟨d, i, rfl, rfl, rfl⟩
theorem tk_slice {P : Program} {d : TypeDesc} {e : Nat} (h : tkOf P d = some (.slice e)) : d = .slice e := by
  cases d <;> simp [tkOf] at h <;> first | (subst h; rfl) | (cases h)
theorem tk_string {P : Program} {d : TypeDesc} (h : tkOf P d = some .string) : d = .string := by
  cases d <;> simp [tkOf] at h <;> first | rfl | (cases h)
theorem tk_int {P : Program} {d : TypeDesc} {k : IntKind} (h : tkOf P d = some (.int k)) : d = .int k := by
  cases d <;> simp [tkOf] at h <;> first | (subst h; rfl) | (cases h)
theorem tk_array {P : Program} {d : TypeDesc} {n e : Nat} (h : tkOf P d = some (.array n e)) : d = .array n e := by
  cases d <;> simp [tkOf] at h <;> first | (obtain ⟨rfl, rfl⟩ := h; rfl) | (cases h)
theorem tk_map {P : Program} {d : TypeDesc} {n e : Nat} (h : tkOf P d = some (.map n e)) : d = .map n e := by
  cases d <;> simp [tkOf] at h <;> first | (obtain ⟨rfl, rfl⟩ := h; rfl) | (cases h)
theorem tk_struct {P : Program} {d : TypeDesc} {fs : List FI} (h : tkOf P d = some (.struct fs)) : ∃ l, d = .struct l ∧ fisOf P l.toList = some fs := by
  cases d <;> simp [tkOf] at h <;> first | exact ⟨_, rfl, h⟩ | (cases h)
theorem tk_noiface {P : Program} {d : TypeDesc} {k : TK} (h : tkOf P d = some k) (hk : k ≠ .iface) : ∀ m, d ≠ .interface m := by
  intro m e; subst e; simp [tkOf] at h; exact hk h.symm

/- ### Cells that nobody writes -/
theorem cellsAt_iptr {g : Gh} {L : Locs} {H : Heap} {h : Array Obj} (R : Rel g L H h) {cs : List AV} {v : Value} (hr : Rep g (.iptr cs) v) (hne : cs ≠ []) :
    ∃ cb o, v = .pointer (some ⟨cb, o, none⟩) ∧ CellsAt g h cb o cs := by
  cases hr with
  | iptr cv hi hr =>
    rename_i cb o
    refine ⟨cb, o, rfl, ?_⟩
    cases cs with
    | nil => exact absurd rfl hne
    | cons c0 cs =>
      have h0 := (hi 0 c0 rfl).1
      unfold cellI at h0
      cases hx : g.I cb with
      | none => rw [hx] at h0; cases h0
      | some ob =>
        rw [hx] at h0
        cases ob with
        | cells arr e fz =>
          refine ⟨arr, e, fz, (R.fr _ _ (R.im _ _ hx)).1, fun j c hj => ?_⟩
          obtain ⟨a, b⟩ := hi j c hj
          unfold cellI at a
          rw [hx] at a
          exact ⟨cv j, a, hr j c hj, b⟩
        | _ => cases h0
theorem cellsAt_blk {g : Gh} {h : Array Obj} {cb base top : Nat} {e : TypeId} {cs : List AV} (hb : BlkOk g h cb base top (.cells e cs)) : CellsAt g h cb base cs := by
  obtain ⟨arr, ⟨el, fz, h1, _⟩, _, _, h2⟩ := hb
  exact ⟨arr, el, fz, h1, h2⟩
theorem cells_some {H : Heap} {b : Nat} {cs : List AV} (h : H.cells b = some cs) : ∃ e, H.get b = some (.cells e cs) := by
  unfold Heap.cells at h
  cases hx : H.get b with
  | none => rw [hx] at h; cases h
  | some x =>
    rw [hx] at h
    cases x with
    | cells e c => cases h; exact ⟨e, rfl⟩
    | map k => cases h
theorem cellsAt_ref {g : Gh} {L : Locs} {H : Heap} {h : Array Obj} (R : Rel g L H h) {b : Nat} {cs : List AV} (hb : H.cells b = some cs) :
    ∃ cb base top, g.ρ b = some (cb, base, top) ∧ g.o cb = some (.inl b) ∧ CellsAt g h cb base cs := by
  obtain ⟨e, hg⟩ := cells_some hb
  obtain ⟨cb, base, top, h1, h2, h3⟩ := R.blk b _ hg
  exact ⟨cb, base, top, h1, h2, cellsAt_blk h3⟩

theorem ldc_nil {agg : Bool} {sz : Nat} {cs : List AV} {off : Nat} {r : AV} (h : M.ldc agg sz cs off = .ok r) : cs ≠ [] ∨ (agg = true ∧ sz = 0 ∧ off = 0 ∧ cs = []) := by
  cases cs with
  | cons c cs => exact .inl (by simp)
  | nil =>
    right
    unfold M.ldc at h
    cases agg with
    | true =>
      simp only [if_true] at h
      split at h
      · rename_i hh; simp at hh; exact ⟨rfl, by omega, by omega, rfl⟩
      · cases h
    | false => simp at h

/-- A load by an address. -/
theorem load_sound {P : Program} {g : Gh} {L : Locs} {H : Heap} {w : World} (R : Rel g L H w.heap) {t : TypeId} {ti : TI} (ht : tiOf P t = some ti) {p r : AV} {v : Value}
    (hp : Rep g p v) (h : M.load ti.agg ti.sz p H = .ok r) : ∃ u, (Instr.loadAt t v).run P w = .ok u w ∧ Rep g r u := by
  unfold M.load at h
  cases hp with
  | ref hρ =>
    rename_i b off cb base top
    simp only at h
    cases hc : H.cells b with
    | none => rw [hc] at h; cases h
    | some cs =>
      rw [hc] at h
      obtain ⟨cb', base', top', h1, _, h3⟩ := cellsAt_ref R hc
      rw [hρ] at h1; cases h1
      obtain ⟨u, a, b⟩ := load_cells ht h3 h
      exact ⟨u, by simp only [Instr.loadAt, Instr.sureAddr, Sem.run_bind, Sem.run_pure, Result.andThen_ok, a], b⟩
  | iptr cv hi hr =>
    rename_i cs cb o
    simp only at h
    rcases ldc_nil h with hne | ⟨ha, hs, _, rfl⟩
    · obtain ⟨cb', o', e, hc⟩ := cellsAt_iptr R (.iptr cv hi hr) hne
      cases e
      obtain ⟨u, a, b⟩ := load_cells ht hc h
      exact ⟨u, by simp only [Instr.loadAt, Instr.sureAddr, Sem.run_bind, Sem.run_pure, Result.andThen_ok]; exact a, b⟩
    · obtain ⟨d, i, hu, hi', _, hag, hsz, _, _⟩ := ti_facts ht
      rw [ha, hs] at h
      simp [M.ldc] at h
      subst h
      refine ⟨.agg #[], ?_, .agg (vs := []) (fun v hv => by cases hv) rfl (fun j c v hj => by simp at hj)⟩
      rw [hag] at ha
      rw [hsz] at hs
      simp [Instr.loadAt, Instr.sureAddr, loadVar, run_agg hu, ha, run_size hi', hs, loadCells, loadCellsFrom]
  | _ => cases h

/-- What is laid over cells. -/
theorem over_cells {g : Gh} {cs new : List AV} {arr : Array Value} {vs : List Value} {base off : Nat} (hc : ∀ j c, cs[j]? = some c → ∃ v, arr[base + j]? = some v ∧ Rep g c v ∧ v.oneCell' = true)
    (hr : Reps g new vs) (ho : ∀ v ∈ vs, v.oneCell' = true) (hle : off + new.length ≤ cs.length) (hsz : base + cs.length ≤ arr.size) :
    ∀ j c, (M.over cs off new)[j]? = some c → ∃ v, (Array.mk (overL arr.toList (base + off) vs))[base + j]? = some v ∧ Rep g c v ∧ v.oneCell' = true := by
  intro j c hj
  rw [over_get hle] at hj
  have hl := hr.1
  have hlen : base + off + vs.length ≤ arr.toList.length := by simp; omega
  simp only [List.getElem?_toArray]
  rw [overL_get hlen]
  by_cases h1 : j < off
  · rw [if_pos h1] at hj
    rw [if_pos (by omega)]
    simpa using hc j c hj
  · rw [if_neg h1] at hj
    rw [if_neg (by omega)]
    by_cases h2 : j < off + new.length
    · rw [if_pos h2] at hj
      rw [if_pos (by omega)]
      obtain ⟨v, hv, hrv⟩ := hr.get hj
      exact ⟨v, by rw [← hv]; congr 1; omega, hrv, ho v (List.mem_of_getElem? hv)⟩
    · rw [if_neg h2] at hj
      rw [if_neg (by omega)]
      simpa using hc j c hj

/-- A row of a block is written over. -/
theorem Rel.over {g : Gh} {L : Locs} {H : Heap} {w : World} (R : Rel g L H w.heap) {b : Nat} {e : TypeId} {cs new : List AV} {vs : List Value} {off cb base top : Nat}
    (hb : H.get b = some (.cells e cs)) (hρ : g.ρ b = some (cb, base, top)) (hr : Reps g new vs) (ho : ∀ v ∈ vs, v.oneCell' = true) (hle : off + new.length ≤ cs.length) (P : Program) :
    ∃ w' : World, (storeCells ⟨cb, base + off, none⟩ vs).run P w = .ok () w' ∧ Keep w w' ∧ Rel g L (H.set b (.cells e (M.over cs off new))) w'.heap := by
  obtain ⟨cb', base', top', h1, h2, arr, ⟨el, fz, h3, h3'⟩, h4, h5, h6⟩ := R.blk b _ hb
  rw [hρ] at h1; cases h1
  have hl := hr.1
  have hsz : (Array.mk (overL arr.toList (base + off + 0) vs)).size = arr.size := by simp only [List.size_toArray]; rw [overL_length (by simp; omega)]; simp
  refine ⟨_, run_storeCells vs 0 w arr h3 h3' (by omega) ho, ⟨rfl, rfl⟩, ?_⟩
  refine R.set hρ h2 ⟨_, ⟨el, fz, by rw [set_get, if_pos rfl, if_pos (some_lt h3)], by rw [hsz]; exact h3'⟩, ?_, ?_, ?_⟩
  · rw [hsz]; exact h4
  · rw [over_length hle]; exact h5
  · exact over_cells h6 hr ho hle (by omega)

theorem stc_ok {sz : Nat} {cs : List AV} {off : Nat} {x : AV} {cs' : List AV} (h : M.stc sz cs off x = .ok cs') : x.one = true ∧ x.cells.length = sz ∧ off + sz ≤ cs.length ∧ cs' = M.over cs off x.cells := by
  unfold M.stc at h
  split at h
  · rename_i hh; cases h; exact ⟨hh.1, hh.2.1, hh.2.2, rfl⟩
  · cases h

theorem store_sound {P : Program} {g : Gh} {L : Locs} {H H' : Heap} {w : World} (R : Rel g L H w.heap) {t : TypeId} {ti : TI} (ht : tiOf P t = some ti) {p x : AV} {v u : Value}
    (hp : Rep g p v) (hx : Rep g x u) (h : M.store ti.sz p x H = .ok H') : ∃ w', (Instr.storeAt t v u).run P w = .ok () w' ∧ Keep w w' ∧ Rel g L H' w'.heap := by
  unfold M.store at h
  cases hp with
  | ref hρ =>
    rename_i b off cb base top
    simp only at h
    cases hb : H.get b with
    | none => rw [hb] at h; cases h
    | some y =>
      rw [hb] at h
      cases y with
      | map kvs => cases h
      | cells e cs =>
        obtain ⟨cs', hs, h⟩ := Out.bind_ok h
        cases h
        obtain ⟨h1, h2, h3, rfl⟩ := stc_ok hs
        obtain ⟨d, i, hu, hi, _, _, hsz, _, _⟩ := ti_facts ht
        have hr := hx.cells
        obtain ⟨w', a, kp, R'⟩ := R.over hb hρ hr (hx.cells_one h1) (off := off) (by omega) P
        refine ⟨w', ?_, kp, R'⟩
        have hlen : u.cells.size = i.size := by
          have := hr.1
          simp at this; omega
        simp only [Instr.storeAt, Instr.sureAddr, Sem.run_bind, Sem.run_pure, Result.andThen_ok, storeVar, run_size hi, hlen]
        simpa using a
  | _ => cases h

/-- The same of a local block. -/
theorem storeLoc_sound {P : Program} {g : Gh} {L : Locs} {H : Heap} {w : World} (R : Rel g L H w.heap) {t : TypeId} {ti : TI} (ht : tiOf P t = some ti) {x : AV} {u : Value} {d off : Nat} {cs cs' : List AV}
    (hL : L.find d = some cs) (hx : Rep g x u) (h : M.stc ti.sz cs off x = .ok cs') :
    ∃ cb w', g.l d = some cb ∧ (Instr.storeAt t (.pointer (some ⟨cb, off, none⟩)) u).run P w = .ok () w' ∧ Keep w w' ∧ Rel g (L.put d cs') H w'.heap := by
  obtain ⟨cb, arr, h1, h2, ⟨e, fz, h3, h3'⟩, h4, h5⟩ := R.loc d cs hL
  obtain ⟨a1, a2, a3, rfl⟩ := stc_ok h
  obtain ⟨_, i, hu, hi, _, _, hsz, _, _⟩ := ti_facts ht
  have hr := hx.cells
  have ho := hx.cells_one a1
  have hl := hr.1
  have hl4 := h4.1
  have hlen : u.cells.size = i.size := by simp at hl; omega
  simp only [Array.length_toList] at hl hl4
  have hsc := run_storeCells (P := P) (o := off) u.cells.toList 0 w arr h3 h3' (by simp; omega) ho
  refine ⟨cb, { w with heap := w.heap.setIfInBounds cb (.cells ⟨overL arr.toList (off + 0) u.cells.toList⟩ e fz) }, h1, ?_, ⟨rfl, rfl⟩, ?_⟩
  · simp only [Instr.storeAt, Instr.sureAddr, Sem.run_bind, Sem.run_pure, Result.andThen_ok, storeVar, run_size hi, hlen]
    simpa using hsc
  · have hov := over_cells (g := g) (cs := cs) (new := x.cells) (arr := arr) (base := 0) (off := off) (fun j c hj => by
      obtain ⟨v, hv, hrv⟩ := h4.get hj
      exact ⟨v, by simpa using hv, hrv, h5 v (List.mem_of_getElem? hv)⟩) hr ho (by omega) (by omega)
    have hol : (overL arr.toList off u.cells.toList).length = (M.over cs off x.cells).length := by
      rw [overL_length (by simp; omega), over_length (by omega)]; simp; omega
    refine R.setLoc h1 h2 ⟨hol.symm, fun j c v hj hv => ?_⟩ (fun v hv => ?_) (fun i hi => h3' i (by rw [Nat.add_zero, overL_length (by simp; omega)] at hi; simpa using hi))
    · obtain ⟨v', hv', hrv, _⟩ := hov j c hj
      simp only [Nat.zero_add, Nat.add_zero, List.getElem?_toArray] at hv' hv
      rw [hv] at hv'; cases hv'; exact hrv
    · simp only [Nat.add_zero] at hv
      obtain ⟨j, hj, rfl⟩ := List.getElem_of_mem hv
      obtain ⟨v', hv', _, hrv⟩ := hov j _ (List.getElem?_eq_getElem (by rw [← hol]; exact hj))
      simp only [Nat.zero_add, List.getElem?_toArray, List.getElem?_eq_getElem hj] at hv'
      cases hv'; exact hrv

/- ### Addresses -/
theorem fieldAddr_sound {P : Program} {s : TypeId} {ti : TI} {fs : List FI} {fd : Nat} {fl : FI} (ht : tiOf P s = some ti) (hk : ti.k = .struct fs) (hf : fs[fd]? = some fl) (hne : fl.2.1 ≠ 0)
    {cb o : Nat} (w : World) : (Instr.fieldAt s (.pointer (some ⟨cb, o, none⟩)) fd).run P w = .ok (.pointer (some ⟨cb, o + fl.1, none⟩)) w := by
  obtain ⟨d, i, hu, hi, hkk, _⟩ := ti_facts ht
  rw [hk] at hkk
  obtain ⟨l, rfl, hl⟩ := tk_struct hkk
  obtain ⟨f, hlf, hfi⟩ := fisOf_get hl hf
  obtain ⟨d', i', hu', hi', rfl⟩ := fi_facts hfi
  have hlf' : l[fd]? = some f := by simpa using hlf
  simp only at hne
  simp [Instr.fieldAt, run_und hu, hlf', Instr.sureAddr, fieldPlace, run_size hi', hne, add_add]
theorem fieldAddr_rep {g : Gh} {off : Nat} {p q : AV} {v : Value} (hp : Rep g p v) (h : M.fieldAddr off p = .ok q) :
    ∃ cb o, v = .pointer (some ⟨cb, o, none⟩) ∧ Rep g q (.pointer (some ⟨cb, o + off, none⟩)) := by
  unfold M.fieldAddr at h
  cases hp with
  | ref hρ => cases h; rename_i b o cb base top; exact ⟨cb, base + o, rfl, by rw [Nat.add_assoc]; exact .ref hρ⟩
  | iptr cv hi hr =>
    cases h; rename_i cs cb o
    refine ⟨cb, o, rfl, .iptr (fun j => cv (off + j)) (fun j c hj => ?_) (fun j c hj => ?_)⟩
    · rw [List.getElem?_drop] at hj; rw [Nat.add_assoc]; exact hi _ c hj
    · rw [List.getElem?_drop] at hj; exact hr _ c hj
  | _ => cases h

theorem nilCheck_sound {g : Gh} {p q : AV} {v : Value} (hp : Rep g p v) (h : M.nilCheck p = .ok q) {P : Program} {w : World} {a : Act} {o : Oper} {x : Operand} (ho : o.op = .nilCheck x) (hx : a.eval x = v) :
    (execOp a.eval o).run P w = .ok (.value v) w ∧ Rep g q v := by
  unfold M.nilCheck at h
  cases hp with
  | ref hρ => cases h; simp only [execOp, ho, hx]; exact ⟨rfl, .ref hρ⟩
  | iptr cv hi hr => cases h; simp only [execOp, ho, hx]; exact ⟨rfl, .iptr cv hi hr⟩
  | fn hl hr hl' hr' =>
    rename_i f _ _ _ _
    simp only at h
    cases f with
    | func n => cases h; simp only [execOp, ho, hx]; exact ⟨rfl, .fn hl hr hl' hr'⟩
    | _ => cases h
  | _ => cases h

theorem indexSl_sound {P : Program} {g : Gh} {t : TypeId} {ti te : TI} {e : Nat} (ht : tiOf P t = some ti) (hk : ti.k = .slice e) (he : tiOf P e = some te) {x i r : AV} {v u : Value}
    (hx : Rep g x v) (hi : Rep g i u) (h : M.indexSl te.sz x i = .ok r) (w : World) : ∃ q, (Instr.indexAt t v u).run P w = .ok q w ∧ Rep g r q := by
  obtain ⟨d, inf, hu, _, hkk, _⟩ := ti_facts ht
  rw [hk] at hkk
  obtain rfl := tk_slice hkk
  obtain ⟨_, ie, _, hie, _, _, hsz, _, _⟩ := ti_facts he
  unfold M.indexSl at h
  cases hi with
  | int k n =>
    simp only at h
    cases hx with
    | sl hρ hl ha =>
      rename_i b off len sz' cb base top cap A
      simp only at h
      split at h
      · rename_i hh
        obtain ⟨rfl, h0, hlt⟩ := hh
        cases h
        obtain ⟨rfl, hcap⟩ := ha (by omega)
        refine ⟨.pointer (some ⟨cb, base + off + n.toNat * te.sz, none⟩), ?_, by rw [Nat.add_assoc]; exact .ref hρ⟩
        simp [Instr.indexAt, asIntOf, run_und hu, h0, hlt, run_size hie, add_add, hsz]
      · cases h
    | isl cv hl h0 hic hr =>
      rename_i sz' cap cb o xs A
      simp only at h
      split at h
      · rename_i hh
        obtain ⟨rfl, hn⟩ := hh
        cases hg : xs[n.toNat]? with
        | none => rw [hg] at h; cases h
        | some y =>
          rw [hg] at h; cases h
          have hlt := (List.getElem?_eq_some_iff.1 hg).1
          have hne : xs ≠ [] := fun e => by rw [e] at hlt; simp at hlt
          rw [h0 hne]
          refine ⟨.pointer (some ⟨cb, o + n.toNat * te.sz, none⟩), ?_, .iptr (fun j => cv n.toNat j) (fun j c hj => hic _ j y c hg hj) (fun j c hj => hr _ j y c hg hj)⟩
          have hlt' : n < (xs.length : Int) := by omega
          simp [Instr.indexAt, asIntOf, run_und hu, hn, hlt', run_size hie, add_add, hsz]
      · cases h
    | _ => cases h
  | _ => cases h

theorem indexArr_sound {P : Program} {t : TypeId} {ti te : TI} {e len : Nat} (ht : tiOf P t = some ti) (hk : ti.k = .array len e) (he : tiOf P e = some te) {k : IntKind} {n : Int} {cb o : Nat}
    (h0 : 0 ≤ n) (h1 : n < len) (w : World) : (Instr.indexAt t (.pointer (some ⟨cb, o, none⟩)) (.int k n)).run P w = .ok (.pointer (some ⟨cb, o + n.toNat * te.sz, none⟩)) w := by
  obtain ⟨d, inf, hu, _, hkk, _⟩ := ti_facts ht
  rw [hk] at hkk
  obtain rfl := tk_array hkk
  obtain ⟨_, ie, _, hie, _, _, hsz, _, _⟩ := ti_facts he
  simp [Instr.indexAt, asIntOf, run_und hu, Instr.sureAddr, h0, h1, run_size hie, add_add, hsz]

/- ### Slices -/
theorem optRep {g : Gh} {o : Option AV} {d : Nat} {n : Int} {v : Option Value} (h : M.bound o d = .ok n) (hr : ∀ a, o = some a → ∃ u, v = some u ∧ Rep g a u) (hn : o = none → v = none) :
    (v = none ∧ n = d) ∨ (∃ k, v = some (.int k n)) := by
  cases o with
  | none => simp [M.bound] at h; exact .inl ⟨hn rfl, h.symm⟩
  | some a =>
    obtain ⟨u, rfl, hu⟩ := hr a rfl
    cases hu <;> simp [M.bound] at h
    subst h; exact .inr ⟨_, rfl⟩

theorem run_bounds {P : Program} {w : World} {sl : Bool} {len cap : Nat} {lo hi : Option Value} {l h : Int} (hlo : (lo = none ∧ l = 0) ∨ ∃ k, lo = some (.int k l)) (hhi : (hi = none ∧ h = len) ∨ ∃ k, hi = some (.int k h))
    (h0 : 0 ≤ l) (h1 : l ≤ h) (h2 : h ≤ len) (hc : len ≤ cap) : (Instr.sliceBounds sl len cap lo hi none).run P w = .ok (l.toNat, h.toNat, cap) w := by
  have hh : 0 ≤ h := by omega
  have hhc : h ≤ (cap : Int) := by omega
  have hln : l ≤ (h.toNat : Int) := by omega
  have hm : max h 0 = h := by omega
  rcases hlo with ⟨rfl, rfl⟩ | ⟨k, rfl⟩ <;> rcases hhi with ⟨rfl, rfl⟩ | ⟨k', rfl⟩
  · simp [Instr.sliceBounds]
  · simp [Instr.sliceBounds, Instr.sliceBound, asIntOf, hh, hhc]
  · simp [Instr.sliceBounds, Instr.sliceBound, asIntOf, h0, h1]
  · simp [Instr.sliceBounds, Instr.sliceBound, asIntOf, h0, hh, hhc, hm, h1]

theorem sliceSl_sound {P : Program} {g : Gh} {t : TypeId} {ti te : TI} {e : Nat} (ht : tiOf P t = some ti) (hk : ti.k = .slice e) (he : tiOf P e = some te) {x r : AV} {v : Value} {lo hi : Option AV} {vlo vhi : Option Value}
    (hx : Rep g x v) (hlo : ∀ a, lo = some a → ∃ u, vlo = some u ∧ Rep g a u) (hlo' : lo = none → vlo = none) (hhi : ∀ a, hi = some a → ∃ u, vhi = some u ∧ Rep g a u) (hhi' : hi = none → vhi = none)
    (h : M.sliceSl te.sz x lo hi = .ok r) (w : World) : ∃ q, (Instr.sliceAt t v vlo vhi none).run P w = .ok q w ∧ Rep g r q := by
  obtain ⟨d, inf, hu, _, hkk, _⟩ := ti_facts ht
  rw [hk] at hkk
  obtain rfl := tk_slice hkk
  obtain ⟨_, ie, _, hie, _, _, hsz, _, _⟩ := ti_facts he
  unfold M.sliceSl at h
  cases hx with
  | sl hρ hl ha =>
    rename_i b off len sz' cb base top cap A
    simp only at h
    obtain ⟨l, hb1, ha1⟩ := Out.bind_ok h
    obtain ⟨hh, hb2, ha2⟩ := Out.bind_ok ha1
    clear h ha1
    split at ha2
    · rename_i hc
      obtain ⟨rfl, h0, h1, h2⟩ := hc
      cases ha2
      have q1 := optRep hb1 hlo hlo'
      have q2 := optRep hb2 hhi hhi'
      simp only [Instr.sliceAt, Instr.slice, Sem.run_bind, run_und hu, Result.andThen_ok, run_bounds (cap := cap) q1 q2 h0 h1 h2 hl, run_size hie, Sem.run_pure]
      rw [hsz]
      have hlen : hh.toNat - l.toNat = (hh - l).toNat := by omega
      rw [hlen]
      refine ⟨_, rfl, ?_⟩
      by_cases hcl : cap = l.toNat
      · rw [if_pos hcl]
        exact .sl hρ (by omega) (fun hp => by omega)
      · rw [if_neg hcl]
        obtain ⟨rfl, hcap⟩ := ha (by omega)
        simp only [Option.map_some, add_add]
        refine .sl hρ (by omega) (fun hp => ⟨by rw [Nat.add_assoc], ?_⟩)
        have e1 : (cap - l.toNat) * ie.size = cap * ie.size - l.toNat * ie.size := Nat.sub_mul _ _ _
        have e2 : l.toNat * ie.size ≤ cap * ie.size := Nat.mul_le_mul_right _ (by omega)
        rw [hsz] at hcap
        omega
    · cases ha2
  | isl cv hl h0' hic hr =>
    rename_i sz' cap cb o xs A
    simp only at h
    obtain ⟨l, hb1, ha1⟩ := Out.bind_ok h
    obtain ⟨hh, hb2, ha2⟩ := Out.bind_ok ha1
    clear h ha1
    split at ha2
    · rename_i hc
      obtain ⟨rfl, h0, h1, h2⟩ := hc
      cases ha2
      have q1 := optRep hb1 hlo hlo'
      have q2 := optRep hb2 hhi hhi'
      simp only [Instr.sliceAt, Instr.slice, Sem.run_bind, run_und hu, Result.andThen_ok, run_bounds (cap := cap) q1 q2 h0 h1 h2 hl, run_size hie, Sem.run_pure]
      rw [hsz]
      have hlen : hh.toNat - l.toNat = ((xs.take hh.toNat).drop l.toNat).length := by simp; omega
      rw [hlen]
      refine ⟨_, rfl, ?_⟩
      have hne : (xs.take hh.toNat).drop l.toNat ≠ [] → A = some ⟨cb, o, none⟩ := fun hne => h0' (fun e => by subst e; simp at hne)
      have hget : ∀ (i : Nat) x, ((xs.take hh.toNat).drop l.toNat)[i]? = some x → xs[l.toNat + i]? = some x := fun i x hi => by
        rw [List.getElem?_drop, List.getElem?_take] at hi; split at hi <;> first | exact hi | cases hi
      refine .isl (cb := cb) (o := o + l.toNat * ie.size) (fun i j => cv (l.toNat + i) j) (by simp; omega) (fun hn => ?_) (fun i j x c hi hj => ?_) (fun i j x c hi hj => hr _ j x c (hget i x hi) hj)
      · have hpos : 0 < ((xs.take hh.toNat).drop l.toNat).length := List.length_pos_iff.2 hn
        rw [if_neg (by simp at hpos; omega), hne hn]
        simp [add_add]
      · have := hic _ j x c (hget i x hi) hj
        rw [hsz] at this
        rw [← this.1]
        refine ⟨?_, this.2⟩
        congr 1
        rw [Nat.add_mul]; omega
    · cases ha2
  | v hp =>
    split at h
    · rename_i hv; cases hv
    · rename_i hv; cases hv
    · rename_i hv
      cases hv
      obtain ⟨l, hb1, ha1⟩ := Out.bind_ok h
      obtain ⟨hh, hb2, ha2⟩ := Out.bind_ok ha1
      clear h ha1
      split at ha2
      · rename_i hc
        obtain ⟨rfl, rfl⟩ := hc
        cases ha2
        have q1 := optRep hb1 hlo hlo'
        have q2 := optRep hb2 hhi hhi'
        simp only [Instr.sliceAt, Instr.slice, Sem.run_bind, run_und hu, Result.andThen_ok, run_bounds (cap := 0) (len := 0) q1 q2 (by omega) (by omega) (by omega) (by omega), run_size hie, Sem.run_pure]
        exact ⟨_, rfl, .v rfl⟩
      · cases ha2
    · cases h
  | _ => cases h

theorem sliceArr_sound {P : Program} {g : Gh} {L : Locs} {H : Heap} {w : World} (R : Rel g L H w.heap) {t : TypeId} {ti te : TI} {n e : Nat} (ht : tiOf P t = some ti) (hk : ti.k = .array n e) (he : tiOf P e = some te) {x r : AV} {v : Value} {lo hi : Option AV} {vlo vhi : Option Value}
    (hx : Rep g x v) (hlo : ∀ a, lo = some a → ∃ u, vlo = some u ∧ Rep g a u) (hlo' : lo = none → vlo = none) (hhi : ∀ a, hi = some a → ∃ u, vhi = some u ∧ Rep g a u) (hhi' : hi = none → vhi = none)
    (h : M.sliceArr n te.sz x lo hi H = .ok r) : ∃ q, (Instr.sliceAt t v vlo vhi none).run P w = .ok q w ∧ Rep g r q := by
  obtain ⟨d, inf, hu, _, hkk, _⟩ := ti_facts ht
  rw [hk] at hkk
  obtain rfl := tk_array hkk
  obtain ⟨_, ie, _, hie, _, _, hsz, _, _⟩ := ti_facts he
  unfold M.sliceArr at h
  cases hx with
  | ref hρ =>
    rename_i b off cb base top
    simp only at h
    split at h
    · rename_i cs hcs
      obtain ⟨l, hb1, ha1⟩ := Out.bind_ok h
      obtain ⟨hh, hb2, ha2⟩ := Out.bind_ok ha1
      clear h ha1
      split at ha2
      · rename_i hc
        obtain ⟨h0, h1, h2, h3⟩ := hc
        cases ha2
        have q1 := optRep hb1 hlo hlo'
        have q2 := optRep hb2 hhi hhi'
        have htop : base + cs.length ≤ top := by
          unfold Heap.cells at hcs
          split at hcs
          · rename_i e' cs' hg
            cases hcs
            obtain ⟨cb', base', top', e1, _, arr, e3, e4, e5, _⟩ := R.blk b _ hg
            rw [hρ] at e1
            cases e1
            exact e5
          · cases hcs
        simp only [Instr.sliceAt, Sem.run_bind, run_und hu, Result.andThen_ok, Instr.sureAddr, Sem.run_pure, run_bounds (cap := n) q1 q2 h0 h1 h2 (Nat.le_refl _), run_size hie]
        rw [hsz] at h3 ⊢
        have hlen : hh.toNat - l.toNat = (hh - l).toNat := by omega
        rw [hlen]
        refine ⟨_, rfl, ?_⟩
        by_cases hcl : n = l.toNat
        · rw [if_pos hcl]
          exact .sl hρ (by omega) (fun hp => by omega)
        · rw [if_neg hcl]
          simp only [add_add]
          refine .sl hρ (by omega) (fun hp => ⟨by rw [Nat.add_assoc], ?_⟩)
          have e1 : (n - l.toNat) * ie.size = n * ie.size - l.toNat * ie.size := Nat.sub_mul _ _ _
          have e2 : l.toNat * ie.size ≤ n * ie.size := Nat.mul_le_mul_right _ (by omega)
          omega
      · cases ha2
    · cases h
  | _ => cases h

theorem extract_bytes (l : List UInt8) (a b : Nat) : (ByteArray.mk ⟨l⟩).extract a b = ⟨⟨(l.take b).drop a⟩⟩ := by
  apply ByteArray.ext
  rw [ByteArray.data_extract]
  apply Array.ext_getElem?
  intro i
  simp only [Array.getElem?_extract, List.getElem?_toArray, List.getElem?_take, List.getElem?_drop, List.size_toArray]
  by_cases h1 : a + i < b
  · by_cases h2 : a + i < l.length
    · rw [if_pos (by omega), if_pos h1]
    · rw [if_neg (by omega), if_pos h1, List.getElem?_eq_none (by omega)]
  · rw [if_neg (by omega), if_neg h1]

end Go.Proofs.YtnhblghplohonaaGreatDoor.Ab
