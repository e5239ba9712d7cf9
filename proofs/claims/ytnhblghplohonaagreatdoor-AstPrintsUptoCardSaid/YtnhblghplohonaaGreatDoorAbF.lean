/- The abstract machine: operations on values, the rest. (Laws.) -/
import Derived.Test.YtnhblghplohonaaGreatDoorAbE
import Derived.Laws.BytesString
import Derived.Laws.Strings
set_option linter.unusedSimpArgs false
set_option linter.unusedVariables false
namespace Go.Proofs.YtnhblghplohonaaGreatDoor.Ab
open Go

/- ### Texts -/
theorem sliceStr_sound {P : Program} {g : Gh} {t : TypeId} {ti : TI} (ht : tiOf P t = some ti) (hk : ti.k = .string) {x r : AV} {v : Value} {lo hi : Option AV} {vlo vhi : Option Value}
    (hx : Rep g x v) (hlo : ∀ a, lo = some a → ∃ u, vlo = some u ∧ Rep g a u) (hlo' : lo = none → vlo = none) (hhi : ∀ a, hi = some a → ∃ u, vhi = some u ∧ Rep g a u) (hhi' : hi = none → vhi = none)
    (h : M.sliceStr x lo hi = .ok r) (w : World) : ∃ q, (Instr.sliceAt t v vlo vhi none).run P w = .ok q w ∧ Rep g r q := by
  obtain ⟨d, inf, hu, _, hkk, _⟩ := ti_facts ht
  rw [hk] at hkk
  obtain rfl := tk_string hkk
  unfold M.sliceStr at h
  cases hx with
  | str s =>
    simp only at h
    obtain ⟨l, hb1, ha1⟩ := Out.bind_ok h
    obtain ⟨hh, hb2, ha2⟩ := Out.bind_ok ha1
    clear h ha1
    split at ha2
    · rename_i hc
      obtain ⟨h0, h1, h2⟩ := hc
      cases ha2
      have q1 := optRep hb1 hlo hlo'
      have q2 := optRep hb2 hhi hhi'
      have hz : (ByteArray.mk ⟨s⟩).size = s.length := by simp [ByteArray.size]
      simp only [Instr.sliceAt, Instr.slice, Sem.run_bind, run_und hu, Result.andThen_ok, hz, Option.isSome_none, Bool.false_eq_true, if_false, run_bounds (cap := s.length) q1 q2 h0 h1 h2 (Nat.le_refl _), Sem.run_pure, extract_bytes]
      exact ⟨_, rfl, .str _⟩
    · cases ha2
  | _ => cases h

theorem bytes_get (l : List UInt8) (n : Nat) : (ByteArray.mk ⟨l⟩)[n]? = l[n]? := by
  simp only [getElem?, decidableGetElem?]
  by_cases h : n < l.length
  · rw [dif_pos (show n < (ByteArray.mk ⟨l⟩).size by simpa [ByteArray.size] using h)]
    show some _ = _
    rw [List.get?Internal_eq_getElem?, List.getElem?_eq_getElem h]
    rfl
  · rw [dif_neg (show ¬ n < (ByteArray.mk ⟨l⟩).size by simpa [ByteArray.size] using h)]
    show none = _
    rw [List.get?Internal_eq_getElem?, List.getElem?_eq_none (by omega)]

theorem indexStr_sound {P : Program} {g : Gh} {t : TypeId} {ti : TI} (ht : tiOf P t = some ti) (hk : ti.k = .string) {x i r : AV} {v u : Value} (hx : Rep g x v) (hi : Rep g i u)
    (h : M.indexStr x i = .ok r) (w : World) : ∃ q, (Instr.index t v u).run P w = .ok q w ∧ Rep g r q := by
  obtain ⟨d, inf, hu, _, hkk, _⟩ := ti_facts ht
  rw [hk] at hkk
  obtain rfl := tk_string hkk
  unfold M.indexStr at h
  cases hx with
  | str s =>
    cases hi with
    | int k n =>
      simp only at h
      split at h
      · rename_i h0
        cases hg : s[n.toNat]? with
        | none => rw [hg] at h; cases h
        | some b =>
          rw [hg] at h; cases h
          refine ⟨.int .u8 b.toNat, ?_, .int _ _⟩
          simp only [Instr.index, asIntOf, Sem.run_bind, Sem.run_pure, Result.andThen_ok, run_und hu, h0, if_true, bytes_get, hg]
      · cases h
    | _ => cases h
  | _ => cases hi <;> cases h

theorem len_sound {P : Program} {g : Gh} {t : TypeId} {ti : TI} (ht : tiOf P t = some ti) (hk : (ti.k.isStr || ti.k.sliceE.isSome) = true) {ts : Array TypeId} (hts : ts[0]? = some t) {x r : AV} {v : Value} (hx : Rep g x v)
    (h : M.len ti.k.isStr x = .ok r) (ty : TypeId) (w : World) : ∃ q, (Builtin.len_ ts ty #[v]).run P w = .ok q w ∧ Rep g r q := by
  obtain ⟨d, i, hu, _, hkk, _⟩ := ti_facts ht
  have h0 : (#[v] : Array Value)[0]? = some v := rfl
  have hsl : ti.k.isStr = false → ∃ e, d = .slice e := fun hf => by
    rw [hf] at hk
    cases hkk' : ti.k <;> rw [hkk'] at hk hkk <;> simp [TK.sliceE] at hk
    exact ⟨_, tk_slice hkk⟩
  unfold M.len at h
  split at h
  · split at h
    · rename_i hs
      cases h
      cases hx
      rename_i l
      have : ti.k = .string := by cases hkk' : ti.k <;> rw [hkk'] at hs <;> simp [TK.isStr] at hs
      rw [this] at hkk
      obtain rfl := tk_string hkk
      have hz : (ByteArray.mk ⟨l⟩).size = l.length := rfl
      exact ⟨.int .i64 l.length, by simp only [Builtin.len_, hts, h0, Sem.run_bind, run_und hu, Result.andThen_ok, hz, goInt, Sem.run_pure], .int _ _⟩
    · cases h
  all_goals try (split at h)
  all_goals first
    | (cases h; done)
    | (rename_i hs
       cases h
       obtain ⟨e, rfl⟩ := hsl (by simpa using hs)
       cases hx
       exact ⟨_, by simp [Builtin.len_, hts, run_und hu, goInt], .int _ _⟩)
  all_goals cases h

/- ### The cells of a list -/
theorem flatMap_get {sz : Nat} : ∀ {xs : List AV}, (∀ x ∈ xs, x.cells.length = sz) → ∀ (k : Nat) (c : AV), (xs.flatMap AV.cells)[k]? = some c → 0 < sz →
    ∃ x, xs[k / sz]? = some x ∧ x.cells[k % sz]? = some c
  | [], _, k, c, h, _ => by simp at h
  | x :: xs, hl, k, c, h, hz => by
    simp only [List.flatMap_cons] at h
    have hx := hl x List.mem_cons_self
    by_cases hk : k < sz
    · rw [List.getElem?_append_left (by omega)] at h
      exact ⟨x, by rw [Nat.div_eq_of_lt hk]; rfl, by rw [Nat.mod_eq_of_lt hk]; exact h⟩
    · rw [List.getElem?_append_right (by omega), hx] at h
      obtain ⟨y, a, b⟩ := flatMap_get (fun z hz => hl z (List.mem_cons_of_mem _ hz)) (k - sz) c h hz
      refine ⟨y, ?_, ?_⟩
      · rw [show k / sz = (k - sz) / sz + 1 by rw [← Nat.add_div_right _ hz]; congr 1; omega]; simpa using a
      · rw [show k % sz = (k - sz) % sz by rw [← Nat.add_mod_right (k - sz)]; congr 1; omega]; exact b

/-- What the model loads of a list: its first cells. -/
theorem cellsOf_sound (P : Program) {g : Gh} {L : Locs} {H : Heap} {hp : Array Obj} (R : Rel g L H hp) {sz : Nat} (hsz : 0 < sz) {x : AV} {v : Value} {n : Nat} {cs : List AV} (hx : Rep g x v)
    (h : M.cellsOf sz x H = .ok (n, cs)) : ∃ vs : List Value, (∀ w : World, (Builtin.lenOf v).run P w = .ok n w) ∧ Reps g cs vs ∧ (∀ u ∈ vs, u.oneCell' = true) ∧ cs.length = n * sz ∧
      ∀ (m : Nat) (w : World), w.heap = hp → m ≤ n → (Builtin.firstCells sz m v).run P w = .ok (vs.take (m * sz)).toArray w := by
  unfold M.cellsOf at h
  cases hx with
  | sl hρ hl ha =>
    rename_i b off len sz' cb base top cap A
    simp only at h
    cases hc : H.cells b with
    | none => rw [hc] at h; cases h
    | some ds =>
      rw [hc] at h
      simp only at h
      split at h
      · rename_i hh
        obtain ⟨rfl, hle⟩ := hh
        cases h
        obtain ⟨cb', base', top', h1, _, h3⟩ := cellsAt_ref R hc
        rw [hρ] at h1; cases h1
        obtain ⟨vs, a, b', c⟩ := ((h3.drop off).take (n * sz')).vals
        have hlen : ((ds.drop off).take (n * sz')).length = n * sz' := by simp; omega
        refine ⟨vs, fun _ => rfl, a, b', hlen, fun m w hw hm => ?_⟩
        by_cases hcap : 0 < cap
        · obtain ⟨rfl, _⟩ := ha hcap
          have hmn : m * sz' ≤ n * sz' := Nat.mul_le_mul_right _ hm
          have hl' := a.1
          simp only [Builtin.firstCells]
          exact run_loadCells (by simp; omega) (fun j u hu => by
            rw [List.getElem?_take] at hu; split at hu
            · exact c w hw j u hu
            · cases hu)
        · obtain rfl : m = 0 := by omega
          simp [Builtin.firstCells, loadCells, loadCellsFrom]
      · cases h
  | isl cv hl h0 hi hr =>
    rename_i sz' cap cb o xs A
    simp only at h
    split at h
    · rename_i hh
      obtain ⟨rfl, hlen, hall⟩ := hh
      cases h
      have hall' : ∀ x ∈ xs, x.cells.length = sz' := fun x hx => by
        have := List.all_eq_true.1 hall x hx; simpa using this
      have hcell : CellsAt g hp cb o (xs.flatMap AV.cells) ∨ xs = [] := by
        cases xs with
        | nil => exact .inr rfl
        | cons x0 xr =>
          left
          have hx0 := hall' x0 List.mem_cons_self
          obtain ⟨c0, hc0⟩ : ∃ c, x0.cells[0]? = some c := ⟨_, List.getElem?_eq_getElem (by omega)⟩
          have hc := (hi 0 0 x0 c0 rfl hc0).1
          unfold cellI at hc
          cases hI : g.I cb with
          | none => rw [hI] at hc; cases hc
          | some ob =>
            rw [hI] at hc
            cases ob with
            | cells arr e fz =>
              refine ⟨arr, e, fz, (R.fr _ _ (R.im _ _ hI)).1, fun j c hj => ?_⟩
              obtain ⟨y, a, b⟩ := flatMap_get hall' j c hj hsz
              obtain ⟨q1, q2⟩ := hi _ _ y c a b
              refine ⟨cv (j / sz') (j % sz'), ?_, hr _ _ y c a b, q2⟩
              unfold cellI at q1
              rw [hI] at q1
              rw [← q1]
              congr 1
              have := Nat.div_add_mod j sz'
              rw [Nat.mul_comm] at this
              omega
            | _ => cases hc
      rcases hcell with hcell | rfl
      · obtain ⟨vs, a, b', c⟩ := hcell.vals
        refine ⟨vs, fun _ => rfl, a, b', hlen, fun m w hw hm => ?_⟩
        by_cases hne : xs = []
        · subst hne
          simp at hm; subst hm
          cases A <;> simp [Builtin.firstCells, loadCells, loadCellsFrom]
        · rw [h0 hne]
          have hmn : m * sz' ≤ xs.length * sz' := Nat.mul_le_mul_right _ hm
          have hl' := a.1
          simp only [Builtin.firstCells]
          exact run_loadCells (by simp; omega) (fun j u hu => by
            rw [List.getElem?_take] at hu; split at hu
            · exact c w hw j u hu
            · cases hu)
      · refine ⟨[], fun _ => rfl, .nil g, (fun u hu => by cases hu), by simp, fun m w hw hm => ?_⟩
        simp at hm; subst hm
        cases A <;> simp [Builtin.firstCells, loadCells, loadCellsFrom]
    · cases h
  | v hp =>
    split at h
    · rename_i hv; cases hv
    · rename_i hv; cases hv
    · rename_i hv
      cases hv
      cases h
      refine ⟨[], fun _ => rfl, .nil g, (fun u hu => by cases hu), by simp, fun m w hw hm => ?_⟩
      simp at hm; subst hm
      simp [Builtin.firstCells]
    · rename_i hv; cases hv
    · cases h
  | str s =>
    simp only at h
    split at h
    · rename_i hs
      subst hs
      cases h
      refine ⟨s.map fun b => .int .u8 b.toNat, ?_, ?_, ?_, by simp, fun m w hw hm => ?_⟩
      · intro w; simp [Builtin.lenOf, ByteArray.size]
      · exact ⟨by simp, fun j c v h1 h2 => by
          simp only [List.getElem?_map] at h1 h2
          cases hb : s[j]? with
          | none => rw [hb] at h1; cases h1
          | some b => rw [hb] at h1 h2; cases h1; cases h2; exact .int _ _⟩
      · intro u hu; simp at hu; obtain ⟨b, _, rfl⟩ := hu; rfl
      · simp only [Builtin.firstCells, extract_bytes, Nat.mul_one, Sem.run_pure]
        congr 1
        simp
    · cases h
  | _ => cases h

/- ### append, copy -/
theorem growBy_le : ∀ (r n c : Nat), c < n + (n + 768) / 4 + 1 → Builtin.growBy n r c ≤ n + (n + 768) / 4
  | 0, n, c, h => by simp [Builtin.growBy]; omega
  | r + 1, n, c, h => by
    simp only [Builtin.growBy]
    split
    · omega
    · exact growBy_le r n _ (by omega)
theorem nextslicecap_le (n c : Nat) (h : c < n) : Builtin.nextslicecap n c ≤ 3 * n := by
  unfold Builtin.nextslicecap
  split
  · omega
  · split
    · omega
    · have := growBy_le 4 n c (by omega); omega

theorem zeroCells_size (z : Array Value) (n : Nat) : (Builtin.zeroCells z n).size = n * z.size := by simp [Builtin.zeroCells]

theorem append_sound {P : Program} {g : Gh} {L : Locs} {H : Heap} {w : World} (R : Rel g L H w.heap) {t1 t2 : TypeId} {ti tj te : TI} {e : Nat} (h1 : tiOf P t1 = some ti) (hk1 : ti.k = .slice e) (h2 : tiOf P t2 = some tj)
    (hk2 : (∃ e', tj.k = .slice e') ∨ tj.k = .string) (he : tiOf P e = some te) {z : AV} (hz : te.zero = some z) (hz0 : te.sz ≠ 0) (hzl : z.cells.length = te.sz) {s x r : AV} {vs vx : Value} {H' : Heap} (hs : Rep g s vs) (hx : Rep g x vx)
    (h : M.append e te.sz te.bytes s x H = .ok (r, H')) (ty : TypeId) {ts : Array TypeId} (hts : ts[0]? = some t1) (hts' : ts[1]? = some t2) :
    ∃ v w' g', (Builtin.append_ ts ty #[vs, vx]).run P w = .ok v w' ∧ Keep w w' ∧ Ext g g' ∧ (∀ j y, g.l j = some y → g'.l j = some y) ∧ Rel g' L H' w'.heap ∧ Rep g' r v := by
  obtain ⟨d1, i1, hu1, _, hkk1, _⟩ := ti_facts h1
  rw [hk1] at hkk1
  obtain rfl := tk_slice hkk1
  obtain ⟨d2, i2, hu2, _, hkk2, _⟩ := ti_facts h2
  have hd2 : (∃ e', d2 = .slice e') ∨ d2 = .string := by
    rcases hk2 with ⟨e', hk2⟩ | hk2 <;> rw [hk2] at hkk2
    · exact .inl ⟨e', tk_slice hkk2⟩
    · exact .inr (tk_string hkk2)
  obtain ⟨_, ie, _, hie, _, _, hsz, hby, hzero⟩ := ti_facts he
  rw [hzero] at hz
  obtain ⟨zv, hzv, hzr⟩ : ∃ zv, ie.zero = some zv ∧ ofV zv = some z := by
    cases hq : ie.zero with
    | none => rw [hq] at hz; cases hz
    | some q => rw [hq] at hz; exact ⟨q, rfl, hz⟩
  have hzc : zv.cells.size = ie.size := by
    have := (rep_ofV (g := g) hzr).cells.1
    simp at this; omega
  unfold M.append at h
  obtain ⟨⟨m, new⟩, hnew, hh1⟩ := Out.bind_ok h
  obtain ⟨⟨n, old⟩, hold, hh2⟩ := Out.bind_ok hh1
  clear h hh1
  simp only at hh2
  split at hh2
  · rename_i hb
    obtain ⟨hb1, hb2⟩ := hb
    obtain ⟨xv, xl, xr, xo, xn, xf⟩ := cellsOf_sound P R (by omega) hx hnew
    obtain ⟨sv, sl, sr, so, sn, sf⟩ := cellsOf_sound P R (by omega) hs hold
    have hm46 : M.most = 2 ^ 46 := rfl
    rw [hm46] at hb1 hb2
    have xvl : xv.length = m * te.sz := by rw [← xr.1, xn]
    have svl : sv.length = n * te.sz := by rw [← sr.1, sn]
    have xfm : ∀ w' : World, w'.heap = w.heap → (Builtin.firstCells te.sz m vx).run P w' = .ok xv.toArray w' := fun w' hw' => by
      have := xf m w' hw' (Nat.le_refl _)
      rwa [← xvl, List.take_length] at this
    have sfn : ∀ w' : World, w'.heap = w.heap → (Builtin.firstCells te.sz n vs).run P w' = .ok sv.toArray w' := fun w' hw' => by
      have := sf n w' hw' (Nat.le_refl _)
      rwa [← svl, List.take_length] at this
    -- the reallocated one
    have realloc : ∀ (base : Option Addr) (cap : Nat), vs = .slice base n cap → ¬ n + m ≤ cap → ∃ (v : Value) (w' : World) (arr : Array Value),
        (Builtin.append_ ts ty #[vs, vx]).run P w = .ok v w' ∧ Keep w w' ∧ w'.heap = w.heap.push (.cells arr e (0, 0)) ∧ (∀ j, j < (sv ++ xv).length → arr[j]? = (sv ++ xv)[j]?) ∧ (sv ++ xv).length ≤ arr.size ∧
        ∃ c, n + m ≤ c ∧ c * te.sz ≤ arr.size ∧ v = .slice (some ⟨w.heap.size, 0, none⟩) (n + m) c := by
      intro base cap hvs hcap
      subst hvs
      have hnx := nextslicecap_le (n + m) cap (by omega)
      have hbig : ¬ (Builtin.nextslicecap (n + m) cap * ie.bytes > 2 ^ 48) := by
        have : Builtin.nextslicecap (n + m) cap * ie.bytes ≤ 3 * (n + m) * ie.bytes := Nat.mul_le_mul_right _ hnx
        rw [Nat.mul_assoc] at this
        rw [hby] at hb1
        omega
      have hmax : ¬ (((n + m : Nat) : Int) > IntKind.i64.max) := by
        have : IntKind.i64.max = 9223372036854775807 := by decide
        rw [this]; omega
      have hq : (Question.appendCap (n + m) cap e).forced = false := rfl
      have hc : ∃ c, n + m ≤ c ∧ (Question.appendCap (n + m) cap e).cut (w.tape w.drawn (.appendCap (n + m) cap e)) = c := ⟨_, by simp [Question.cut], rfl⟩
      obtain ⟨c, hc1, hc2⟩ := hc
      have hw1 : ({ w with drawn := w.drawn + 1 } : World).heap = w.heap := rfl
      have sfn' := sfn { w with drawn := w.drawn + 1 } hw1
      have xfm' := xfm { w with drawn := w.drawn + 1 } hw1
      refine ⟨.slice (some ⟨w.heap.size, 0, none⟩) (n + m) c, { w with drawn := w.drawn + 1, heap := w.heap.push (.cells (sv.toArray ++ xv.toArray ++ Builtin.zeroCells zv.cells (c - (n + m))) e (0, 0)) }, sv.toArray ++ xv.toArray ++ Builtin.zeroCells zv.cells (c - (n + m)), ?_, ⟨rfl, rfl⟩, rfl, ?_, ?_, c, hc1, ?_, rfl⟩
      · rw [hsz] at sfn' xfm'
        rcases hd2 with ⟨e', rfl⟩ | rfl
        all_goals simp only [Builtin.append_, hts, hts', List.getElem?_toArray, List.getElem?_cons_zero, List.getElem?_cons_succ, Sem.run_bind, run_und hu1, run_und hu2, Result.andThen_ok, run_size hie, Sem.run_pure, Bool.false_eq_true, if_false, xl w, hcap,
          hmax, false_and, run_info hie, hbig, run_choose, hq, hc2, run_askRoom, sfn', xfm', run_zero hie hzv, Bool.not_false, if_true, newRow, run_newObj]
        all_goals rfl
      · intro j hj
        rw [Array.getElem?_append_left (by simpa using hj)]
        simp
      · simp
      · simp only [Array.size_append, List.size_toArray, zeroCells_size, hzc]
        rw [xvl, svl, hsz]
        have : c * ie.size = n * ie.size + m * ie.size + (c - (n + m)) * ie.size := by
          rw [← Nat.add_mul, ← Nat.add_mul]; congr 1; omega
        omega
    cases hs with
    | sl hρ hl ha =>
      rename_i b off len sz' cb base top cap A
      simp only at hh2
      cases hh2
      have hnl : n = len := by
        have := sl w
        simp [Builtin.lenOf] at this; exact this.symm
      subst hnl
      have hold0 := hold
      unfold M.cellsOf at hold
      simp only at hold
      cases hc : H.cells b with
      | none => rw [hc] at hold; cases hold
      | some ds =>
        rw [hc] at hold
        simp only at hold
        split at hold
        · rename_i hh
          obtain ⟨rfl, hle⟩ := hh
          by_cases hcap : n + m ≤ cap
          · -- in place
            obtain ⟨el, hg⟩ := cells_some hc
            obtain ⟨cb', base', top', q1, q2, arr, ⟨ec, fz, q3, q3'⟩, q4, q5, q6⟩ := R.blk b _ hg
            rw [hρ] at q1; cases q1
            have ho2 : (n + m) * te.sz ≤ cap * te.sz := Nat.mul_le_mul_right _ hcap
            have hmul : (n + m) * te.sz = n * te.sz + m * te.sz := Nat.add_mul _ _ _
            obtain ⟨w', hrun, hkp, hheap⟩ : ∃ w' : World, (Builtin.append_ ts ty #[.slice (some A) n cap, vx]).run P w = .ok (.slice (some A) (n + m) cap) w' ∧ Keep w w' ∧
                w'.heap = w.heap.setIfInBounds cb (.cells ⟨overL arr.toList (base + off + n * te.sz) xv⟩ ec fz) := by
              have xfm' := xfm w rfl
              rw [hsz] at xfm'
              by_cases hcz : 0 < cap
              · obtain ⟨rfl, hcap2⟩ := ha hcz
                have hst := run_storeCells (P := P) (cb := cb) (o := base + off + n * te.sz) xv 0 w arr q3 q3' (by omega) xo
                rw [hsz] at hst
                refine ⟨{ w with heap := w.heap.setIfInBounds cb (.cells ⟨overL arr.toList (base + off + n * te.sz) xv⟩ ec fz) }, ?_, ⟨rfl, rfl⟩, rfl⟩
                rcases hd2 with ⟨e', rfl⟩ | rfl
                all_goals simp only [Builtin.append_, hts, hts', List.getElem?_toArray, List.getElem?_cons_zero, List.getElem?_cons_succ, Sem.run_bind, run_und hu1, run_und hu2, Result.andThen_ok, run_size hie, Sem.run_pure, Bool.false_eq_true, if_false, xl w, hcap,
                  if_true, Bool.not_false, xfm', add_add, hst]
                all_goals (rw [hsz]; simp)
              · obtain rfl : cap = 0 := by omega
                obtain rfl : n = 0 := by omega
                obtain rfl : m = 0 := by omega
                have hxv : xv = [] := List.eq_nil_of_length_eq_zero (by rw [xvl]; simp)
                subst hxv
                refine ⟨w, ?_, .refl w, ?_⟩
                · rcases hd2 with ⟨e', rfl⟩ | rfl
                  all_goals simp only [Builtin.append_, hts, hts', List.getElem?_toArray, List.getElem?_cons_zero, List.getElem?_cons_succ, Sem.run_bind, run_und hu1, run_und hu2, Result.andThen_ok, run_size hie, Sem.run_pure, Bool.false_eq_true, if_false, xl w,
                    if_true, Bool.not_false, xfm', storeCells, Nat.add_zero, Nat.le_refl, List.toList_toArray]
                · apply Array.ext_getElem?
                  intro j
                  rw [set_get]
                  split
                  · rename_i hj; subst hj; rw [if_pos (some_lt q3), q3]; simp [overL]
                  · rfl
            have hwr : base + off + n * te.sz + xv.length ≤ arr.size := by
              by_cases hcz : 0 < cap
              · obtain ⟨_, hcap2⟩ := ha hcz; omega
              · have h1 : n = 0 := by omega
                have h2 : m = 0 := by omega
                subst h1; subst h2; simp at xvl ⊢; rw [xvl]; simp; omega
            have hsz2 : (Array.mk (overL arr.toList (base + off + n * te.sz) xv)).size = arr.size := by
              simp only [List.size_toArray]; rw [overL_length (by simpa using hwr)]; simp
            have hext := Gh.turn_ext R cb (base + off) arr.size
            refine ⟨_, w', g.turn H.n cb (base + off) arr.size, hrun, hkp, hext, fun _ _ h => h, ?_, ?_⟩
            · rw [hheap]
              refine R.turn q2 ⟨_, ⟨ec, fz, by rw [set_get, if_pos rfl, if_pos (some_lt q3)], by rw [hsz2]; exact q3'⟩, hsz2, ?_, ?_⟩
              · simp only [List.length_append, sn, xn]; omega
              · intro i c hi
                have hlen : base + off + n * te.sz + xv.length ≤ arr.toList.length := by simpa using hwr
                simp only [List.getElem?_toArray]
                rw [overL_get hlen]
                by_cases hi2 : i < n * te.sz
                · rw [List.getElem?_append_left (by omega)] at hi
                  rw [if_pos (by omega)]
                  cases hold
                  rw [List.getElem?_take, if_pos hi2, List.getElem?_drop] at hi
                  obtain ⟨v, a1, a2, a3⟩ := q6 _ c hi
                  exact ⟨v, by rw [← a1, Array.getElem?_toList]; congr 1; omega, a2.mono hext, a3⟩
                · rw [List.getElem?_append_right (by omega), sn] at hi
                  obtain ⟨v, a1, a2⟩ := xr.get hi
                  have hlt := (List.getElem?_eq_some_iff.1 a1).1
                  rw [if_neg (by omega), if_pos (by omega)]
                  exact ⟨v, by rw [← a1]; congr 1; omega, a2.mono hext, xo v (List.mem_of_getElem? a1)⟩
            · refine .sl (cb := cb) (base := base + off) (top := arr.size) (by simp [Gh.turn]) hcap (fun hc0 => ?_)
              obtain ⟨hA, hcap2⟩ := ha hc0
              exact ⟨by rw [hA]; simp, by omega⟩
          · -- a new one
            obtain ⟨v, w', arr, r1, rk, r2, r3, r4, c, r5, r6, rfl⟩ := realloc _ _ rfl hcap
            have hext := Gh.alloc_ext (R.kill b) arr.size
            have RR := (R.kill b).alloc (e := e) (e' := e) (fz := (0, 0)) (sr.append xr) (fun v hv => by
              rcases List.mem_append.1 hv with hv | hv
              · exact so v hv
              · exact xo v hv) r3 r4 (fun i _ => by omega)
            refine ⟨_, w', _, r1, rk, hext, fun _ _ h => h, by rw [r2]; exact RR, ?_⟩
            exact .sl (cb := w.heap.size) (base := 0) (top := arr.size) (by simp [Gh.alloc, Heap.kill]) r5 (fun _ => ⟨by simp, by omega⟩)
        · cases hold
    | v hp =>
      split at hh2
      · rename_i hv; cases hv
      · rename_i hv
        cases hv
        have hn0 : n = 0 := by
          have := sl w
          simp [Builtin.lenOf] at this; exact this.symm
        subst hn0
        split at hh2
        · rename_i hm0
          subst hm0
          cases hh2
          refine ⟨.slice none 0 0, w, g, ?_, .refl w, .refl g, fun _ _ h => h, R, .v rfl⟩
          have hxv : xv = [] := List.eq_nil_of_length_eq_zero (by rw [xvl]; simp)
          have xfm' := xfm w rfl
          rw [hsz] at xfm'
          rcases hd2 with ⟨e', rfl⟩ | rfl
          all_goals simp only [Builtin.append_, hts, hts', List.getElem?_toArray, List.getElem?_cons_zero, List.getElem?_cons_succ, Sem.run_bind, run_und hu1, run_und hu2, Result.andThen_ok, run_size hie, Sem.run_pure, Bool.false_eq_true, if_false, xl w,
            if_true, Bool.not_false, xfm', Nat.add_zero, Nat.le_refl]
        · cases hh2
          obtain ⟨v, w', arr, r1, rk, r2, r3, r4, c, r5, r6, rfl⟩ := realloc _ _ rfl (by omega)
          have hext := Gh.alloc_ext R arr.size
          have RR := R.alloc (e := e) (e' := e) (fz := (0, 0)) (sr.append xr) (fun v hv => by
            rcases List.mem_append.1 hv with hv | hv
            · exact so v hv
            · exact xo v hv) r3 r4 (fun i _ => by omega)
          refine ⟨_, w', _, r1, rk, hext, fun _ _ h => h, by rw [r2]; exact RR, ?_⟩
          exact .sl (cb := w.heap.size) (base := 0) (top := arr.size) (by simp [Gh.alloc]) r5 (fun _ => ⟨by simp, by omega⟩)
      · cases hh2
    | _ => cases hh2
  · cases hh2

end Go.Proofs.YtnhblghplohonaaGreatDoor.Ab
