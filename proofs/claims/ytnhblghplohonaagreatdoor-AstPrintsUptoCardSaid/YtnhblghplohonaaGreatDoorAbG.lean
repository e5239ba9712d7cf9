/- The abstract machine: copies, operators, conversions, new lists, structs, maps. (Laws.) -/
import Derived.Test.YtnhblghplohonaaGreatDoorAbF
set_option linter.unusedSimpArgs false
set_option linter.unusedVariables false
namespace Go.Proofs.YtnhblghplohonaaGreatDoor.Ab
open Go

theorem copy_sound {P : Program} {g : Gh} {L : Locs} {H : Heap} {w : World} (R : Rel g L H w.heap) {t1 : TypeId} {ti te : TI} {e : Nat} (h1 : tiOf P t1 = some ti) (hk1 : ti.k = .slice e)
    (he : tiOf P e = some te) (hz0 : te.sz ≠ 0) {d s r : AV} {vd vs : Value} {H' : Heap} (hd : Rep g d vd) (hs : Rep g s vs)
    (h : M.copy te.sz d s H = .ok (r, H')) (ty : TypeId) {ts : Array TypeId} (hts : ts[0]? = some t1) :
    ∃ v w', (Builtin.copy_ ts ty #[vd, vs]).run P w = .ok v w' ∧ Keep w w' ∧ Rel g L H' w'.heap ∧ Rep g r v := by
  obtain ⟨d1, i1, hu1, _, hkk1, _⟩ := ti_facts h1
  rw [hk1] at hkk1
  obtain rfl := tk_slice hkk1
  obtain ⟨_, ie, _, hie, _, _, hsz, hby, hzero⟩ := ti_facts he
  unfold M.copy at h
  cases hd with
  | sl hρ hl ha =>
    rename_i b off n sz' cb base top cap A
    simp only at h
    obtain ⟨⟨m, new⟩, hnew, hh⟩ := Out.bind_ok h
    clear h
    simp only at hh
    cases hb : H.get b with
    | none => rw [hb] at hh; cases hh
    | some y =>
      rw [hb] at hh
      cases y with
      | map kvs => cases hh
      | cells el cs =>
        simp only at hh
        split at hh
        · rename_i hc
          obtain ⟨rfl, hle⟩ := hc
          cases hh
          obtain ⟨xv, xl, xr, xo, xn, xf⟩ := cellsOf_sound P R (by omega) hs hnew
          have hk : min m n * te.sz ≤ n * te.sz := Nat.mul_le_mul_right _ (by omega)
          have hk2 : min m n * te.sz ≤ m * te.sz := Nat.mul_le_mul_right _ (by omega)
          have hxl := xr.1
          have hlen : (new.take (min m n * te.sz)).length = min m n * te.sz := by simp; omega
          have hxf := xf (min m n) w rfl (by omega)
          rw [hsz] at hxf
          have hmin : Nat.min m n = min m n := rfl
          by_cases hcz : 0 < cap
          · obtain ⟨rfl, _⟩ := ha hcz
            obtain ⟨w', a, kp, R'⟩ := R.over hb hρ (xr.take (min m n * te.sz)) (fun v hv => xo v (List.mem_of_mem_take hv)) (off := off) (by omega) P
            refine ⟨_, w', ?_, kp, R', .int .i64 _⟩
            rw [hsz] at a
            simp only [Builtin.copy_, hts, List.getElem?_toArray, List.getElem?_cons_zero, List.getElem?_cons_succ, Sem.run_bind, run_und hu1, Result.andThen_ok, xl w, run_size hie, hmin, hxf, goInt, Sem.run_pure, List.toList_toArray, a]
          · obtain rfl : n = 0 := by omega
            have e0 : new.take (min m 0 * te.sz) = [] := by simp
            rw [e0]
            have hov : M.over cs off [] = cs := by simp [M.over]
            rw [hov]
            obtain ⟨cb', base', top', q1, q2, q3⟩ := R.blk b _ hb
            have hset := R.set (b := b) (x := .cells el cs) (o := (w.heap[cb']?).getD default) q1 q2 (q3.of_heap (by
              obtain ⟨arr, ⟨_, _, hr, _⟩, _⟩ := q3
              rw [set_get, if_pos rfl, if_pos (some_lt hr), hr]; rfl))
            have hsame : w.heap.setIfInBounds cb' ((w.heap[cb']?).getD default) = w.heap := by
              obtain ⟨arr, ⟨_, _, hr, _⟩, _⟩ := q3
              apply Array.ext_getElem?
              intro j
              rw [set_get]
              split
              · rename_i e; subst e; rw [if_pos (some_lt hr), hr]; rfl
              · rfl
            rw [hsame] at hset
            refine ⟨_, w, ?_, .refl w, hset, .int .i64 _⟩
            have hxv : (xv.take (min m 0 * ie.size)).toArray = #[] := by simp
            simp only [Builtin.copy_, hts, List.getElem?_toArray, List.getElem?_cons_zero, List.getElem?_cons_succ, Sem.run_bind, run_und hu1, Result.andThen_ok, xl w, run_size hie, hmin, hxf, goInt, Sem.run_pure, hxv, storeCells]
        · cases hh
  | v hp =>
    split at h
    · rename_i hv; cases hv
    · rename_i hv
      cases hv
      obtain ⟨⟨m, new⟩, hnew, hh⟩ := Out.bind_ok h
      cases hh
      obtain ⟨xv, xl, xr, xo, xn, xf⟩ := cellsOf_sound P R (by omega) hs hnew
      have hxf := xf 0 w rfl (by omega)
      rw [hsz] at hxf
      have hmin : Nat.min m 0 = 0 := by simp
      refine ⟨_, w, ?_, .refl w, R, .int .i64 _⟩
      simp only [Builtin.copy_, hts, List.getElem?_toArray, List.getElem?_cons_zero, List.getElem?_cons_succ, Sem.run_bind, run_und hu1, Result.andThen_ok, xl w, run_size hie, hmin, hxf, goInt, Sem.run_pure]
      rfl
    · cases h
  | _ => cases h

/- ### Operators -/
theorem eq_slice_nil {P : Program} {t : TypeId} {e : TypeId} (ht : P.underlying t = some (.slice e)) (A : Addr) (n c : Nat) (w : World) : ∀ d, (Op.equalIn (d + 1) t (.slice (some A) n c) (.slice none 0 0)).run P w = .ok false w ∧
    (Op.equalIn (d + 1) t (.slice none 0 0) (.slice (some A) n c)).run P w = .ok false w := fun d => by
  constructor <;> simp only [Op.equalIn, Sem.run_bind, run_und ht, Result.andThen_ok] <;> rfl
theorem eq_ptr_nil {P : Program} {t : TypeId} {e : TypeId} (ht : P.underlying t = some (.pointer e)) (A : Addr) (w : World) : ∀ d, (Op.equalIn (d + 1) t (.pointer (some A)) (.pointer none)).run P w = .ok false w ∧
    (Op.equalIn (d + 1) t (.pointer none) (.pointer (some A))).run P w = .ok false w := fun d => by
  constructor <;> simp only [Op.equalIn, Sem.run_bind, run_und ht, Result.andThen_ok] <;> rfl
theorem eq_func_nil {P : Program} {t : TypeId} {a b : Array TypeId} {c : Bool} (ht : P.underlying t = some (.func a b c)) (f : Fn) (p q : Array Value) (w : World) : ∀ d, (Op.equalIn (d + 1) t (.func f p q) .nilFunc).run P w = .ok false w ∧
    (Op.equalIn (d + 1) t .nilFunc (.func f p q)).run P w = .ok false w := fun d => by
  constructor <;> simp only [Op.equalIn, Sem.run_bind, run_und ht, Result.andThen_ok] <;> rfl
theorem bin_sound {P : Program} {g : Gh} {op : BinOp} {t : TypeId} {xo yo : Operand} {x y r : AV} {v u : Value} (hx : Rep g x v) (hy : Rep g y u) (h : M.bin P op t xo yo x y = .ok r) (w : World) :
    ∃ q, (do eqGuard op t xo yo v u; binOp op t v u : Sem Value).run P w = .ok q w ∧ Rep g r q := by
  have unl : ∀ {a b : Value}, (eqGuard op t xo yo a b).run P w = .ok () w → (op = .eql ∨ op = .neq → (Op.equal t a b).run P w = .ok false w) → (op = .eql → binOp op t a b = do pure (.bool (← Op.equal t a b))) →
      (op = .neq → binOp op t a b = do pure (.bool (!(← Op.equal t a b)))) → M.unlike op = .ok r → ∃ q, (do eqGuard op t xo yo a b; binOp op t a b : Sem Value).run P w = .ok q w ∧ Rep g r q := by
    intro a b hg he h1 h2 hu
    unfold M.unlike at hu
    split at hu <;> cases hu
    · exact ⟨.bool false, by simp only [Sem.run_bind, hg, Result.andThen_ok, h1 rfl, he (.inl rfl), Sem.run_pure], .bool _⟩
    · exact ⟨.bool true, by simp only [Sem.run_bind, hg, Result.andThen_ok, h2 rfl, he (.inr rfl), Sem.run_pure, Bool.not_false], .bool _⟩
  unfold M.bin at h
  split at h
  · -- whole numbers
    rename_i k a k' b
    cases hx; cases hy
    have hg : (eqGuard op t xo yo (.int k a) (.int k' b)).run P w = .ok () w := by
      unfold eqGuard; cases op <;> rfl
    have hb : binOp op t (.int k a) (.int k' b) = binOp op 0 (.int k a) (.int k' b) := by
      unfold binOp; cases op <;> rfl
    simp only [Sem.run_bind, hg, Result.andThen_ok, hb]
    split at h
    · rename_i e; rw [e]; cases h; exact ⟨_, rfl, .int _ _⟩
    · rename_i e; rw [e]; cases h; exact ⟨_, rfl, .bool _⟩
    · cases h
  · -- texts
    rename_i a b
    cases hx; cases hy
    have hg : (eqGuard op t xo yo (.string ⟨⟨a⟩⟩) (.string ⟨⟨b⟩⟩)).run P w = .ok () w := by
      unfold eqGuard; cases op <;> rfl
    have hb : binOp op t (.string ⟨⟨a⟩⟩) (.string ⟨⟨b⟩⟩) = Op.stringOp op ⟨⟨a⟩⟩ ⟨⟨b⟩⟩ := by
      unfold binOp; cases op <;> rfl
    have ea : (ByteArray.mk ⟨a⟩).toList = a := by rw [ByteArray.toList_eq]
    have eb : (ByteArray.mk ⟨b⟩).toList = b := by rw [ByteArray.toList_eq]
    simp only [Sem.run_bind, hg, Result.andThen_ok, hb]
    unfold Op.stringOp
    rw [ea, eb]
    cases op <;> simp only at h ⊢
    case add =>
      split at h
      · rename_i hle
        cases h
        have hm : M.most = 2 ^ 46 := rfl
        rw [hm] at hle
        have hmax : IntKind.i64.max = 9223372036854775807 := by decide
        have e1 : (ByteArray.mk ⟨a⟩).size = a.length := rfl
        have e2 : (ByteArray.mk ⟨b⟩).size = b.length := rfl
        rw [if_neg (by rw [hmax, e1, e2]; omega)]
        refine ⟨.string ⟨⟨a ++ b⟩⟩, ?_, .str _⟩
        simp only [Sem.run_pure]
        congr 2
      · cases h
    all_goals first
      | (cases h; exact ⟨_, rfl, .bool _⟩)
      | cases h
  · -- a list and nil
    rename_i b off n sz
    cases hx
    cases hy
    split at h
    · rename_i ht
      refine unl (by unfold eqGuard; cases op <;> rfl) (fun _ => ?_) (fun e => by subst e; rfl) (fun e => by subst e; rfl) h
      exact (eq_slice_nil ht _ _ _ w 9999).1
    · cases h
  · rename_i b off n sz
    cases hx
    cases hy
    split at h
    · rename_i ht
      refine unl (by unfold eqGuard; cases op <;> rfl) (fun _ => ?_) (fun e => by subst e; rfl) (fun e => by subst e; rfl) h
      exact (eq_slice_nil ht _ _ _ w 9999).2
    · cases h
  · cases hx
    cases hy
    split at h
    · rename_i ht
      refine unl (by unfold eqGuard; cases op <;> rfl) (fun _ => ?_) (fun e => by subst e; rfl) (fun e => by subst e; rfl) h
      exact (eq_ptr_nil ht _ w 9999).1
    · cases h
  · cases hx
    cases hy
    split at h
    · rename_i ht
      refine unl (by unfold eqGuard; cases op <;> rfl) (fun _ => ?_) (fun e => by subst e; rfl) (fun e => by subst e; rfl) h
      exact (eq_ptr_nil ht _ w 9999).2
    · cases h
  · cases hx
    cases hy
    split at h
    · rename_i ht
      refine unl (by unfold eqGuard; cases op <;> rfl) (fun _ => ?_) (fun e => by subst e; rfl) (fun e => by subst e; rfl) h
      exact (eq_ptr_nil ht _ w 9999).1
    · cases h
  · cases hx
    cases hy
    split at h
    · rename_i ht
      refine unl (by unfold eqGuard; cases op <;> rfl) (fun _ => ?_) (fun e => by subst e; rfl) (fun e => by subst e; rfl) h
      exact (eq_ptr_nil ht _ w 9999).2
    · cases h
  · cases hx
    cases hy
    split at h
    · rename_i ht
      refine unl (by unfold eqGuard; cases op <;> rfl) (fun _ => ?_) (fun e => by subst e; rfl) (fun e => by subst e; rfl) h
      exact (eq_func_nil ht _ _ _ w 9999).1
    · cases h
  · cases hx
    cases hy
    split at h
    · rename_i ht
      refine unl (by unfold eqGuard; cases op <;> rfl) (fun _ => ?_) (fun e => by subst e; rfl) (fun e => by subst e; rfl) h
      exact (eq_func_nil ht _ _ _ w 9999).2
    · cases h
  · -- plain values
    split at h
    · rename_i a b ha hb
      have e1 := toV_rep hx ha
      have e2 := toV_rep hy hb
      subst e1; subst e2
      split at h
      · rename_i q hq
        cases ho : ofV q with
        | none => rw [ho] at h; cases h
        | some rr => rw [ho] at h; cases h; exact ⟨q, peel_run _ hq w, rep_ofV ho⟩
      · cases h
    · cases h

theorem un_sound {P : Program} {g : Gh} {op : UnOp} {x r : AV} {v : Value} (hx : Rep g x v) (h : M.un op x = .ok r) (w : World) : ∃ q, (Op.unary op v).run P w = .ok q w ∧ Rep g r q := by
  unfold M.un at h
  split at h
  · rename_i a ha
    have e1 := toV1_rep hx ha
    subst e1
    split at h
    · rename_i q hq
      cases ho : ofV q with
      | none => rw [ho] at h; cases h
      | some rr => rw [ho] at h; cases h; rw [hq]; exact ⟨q, rfl, rep_ofV ho⟩
    · cases h
  · cases h

theorem conv_sound {P : Program} {g : Gh} {src dst : TypeId} {ts td : TI} (h1 : tiOf P src = some ts) (h2 : tiOf P dst = some td) {x r : AV} {v : Value} (hx : Rep g x v) (h : M.conv P src dst ts.k td.k x = .ok r) (w : World) :
    ∃ q, (convert src dst v).run P w = .ok q w ∧ Rep g r q := by
  obtain ⟨d1, i1, hu1, _, hk1, _⟩ := ti_facts h1
  obtain ⟨d2, i2, hu2, _, hk2, _⟩ := ti_facts h2
  unfold M.conv at h
  split at h
  · rename_i a b c e1 e2
    cases hx
    cases h
    rw [e1] at hk1
    rw [e2] at hk2
    obtain rfl := tk_int hk1
    obtain rfl := tk_int hk2
    exact ⟨_, by simp [convert, run_und hu1, run_und hu2, Conv.intToInt], .int _ _⟩
  · rename_i l e1 e2
    cases hx
    cases h
    rw [e1] at hk1
    rw [e2] at hk2
    obtain rfl := tk_string hk1
    obtain rfl := tk_string hk2
    exact ⟨_, by simp [convert, run_und hu1, run_und hu2], .str _⟩
  · split at h
    · rename_i a ha
      have e1 := toV1_rep hx ha
      subst e1
      split at h
      · rename_i q hq
        cases ho : ofV q with
        | none => rw [ho] at h; cases h
        | some rr => rw [ho] at h; cases h; exact ⟨q, peel_run _ hq w, rep_ofV ho⟩
      · cases h
    · cases h

theorem minmax_sound {P : Program} {g : Gh} {mx : Bool} {x y r : AV} {v u : Value} (hx : Rep g x v) (hy : Rep g y u) (h : M.minmax mx x y = .ok r) (ts : Array TypeId) (ty : TypeId) (w : World) :
    ∃ q, (if mx then Builtin.max_ ts ty #[v, u] else Builtin.min_ ts ty #[v, u]).run P w = .ok q w ∧ Rep g r q := by
  unfold M.minmax at h
  split at h
  · cases hx; cases hy
    split at h
    · cases h
      cases mx
      · exact ⟨_, by simp [Builtin.min_, Builtin.min2], .int _ _⟩
      · exact ⟨_, by simp [Builtin.max_, Builtin.max2], .int _ _⟩
    · cases h
  · cases h

/- ### Parts of values -/
theorem ldc_rep {P : Program} {g : Gh} {t : TypeId} {ti : TI} (ht : tiOf P t = some ti) {cs : List AV} {vs : List Value} (hr : Reps g cs vs) (ho : ∀ v ∈ vs, v.oneCell' = true) {off : Nat} {r : AV}
    (h : M.ldc ti.agg ti.sz cs off = .ok r) (w : World) : ∃ q, (part t ⟨vs⟩ off).run P w = .ok q w ∧ Rep g r q := by
  obtain ⟨d, i, hu, hi, _, ha, hs, _, _⟩ := ti_facts ht
  unfold M.ldc at h
  rw [ha, hs] at h
  have hl := hr.1
  by_cases hag : isAggD d = true
  · rw [hag] at h
    simp only [if_true] at h
    split at h
    · cases h
      have hr2 := (hr.drop off).take i.size
      refine ⟨.agg ⟨(vs.drop off).take i.size⟩, ?_, .agg (fun v hv => ho v (List.mem_of_mem_drop (List.mem_of_mem_take hv))) hr2.1 hr2.2⟩
      simp only [part, Sem.run_bind, run_agg hu, Result.andThen_ok, hag, if_true, run_size hi, Sem.run_pure]
      congr 2
      apply Array.ext_getElem?
      intro j
      simp only [Array.getElem?_extract, List.getElem?_toArray, List.getElem?_take, List.getElem?_drop, List.size_toArray]
      by_cases hj : j < i.size
      · rw [if_pos hj]
        by_cases h2 : off + j < vs.length
        · rw [if_pos (by omega)]
        · rw [if_neg (by omega), List.getElem?_eq_none (by omega)]
      · rw [if_neg (by omega), if_neg hj]
    · cases h
  · simp only [Bool.not_eq_true] at hag
    rw [hag] at h
    simp only [Bool.false_eq_true, if_false] at h
    cases hx : cs[off]? with
    | none => rw [hx] at h; cases h
    | some c =>
      rw [hx] at h; cases h
      obtain ⟨v, hv, hrv⟩ := hr.get hx
      refine ⟨v, ?_, hrv⟩
      have hv' : (Array.mk vs)[off]? = some v := by simpa using hv
      simp only [part, Sem.run_bind, run_agg hu, Result.andThen_ok, hag, Bool.false_eq_true, if_false, hv', Sem.run_pure]

theorem field_sound {P : Program} {g : Gh} {s : TypeId} {ti : TI} {fs : List FI} {fd : Nat} {fl : FI} (ht : tiOf P s = some ti) (hk : ti.k = .struct fs) (hf : fs[fd]? = some fl) {x r : AV} {v : Value} (hx : Rep g x v)
    (h : M.field fl.2.2 fl.2.1 fl.1 x = .ok r) (w : World) : ∃ q, (Instr.field s v fd).run P w = .ok q w ∧ Rep g r q := by
  obtain ⟨d, i, hu, hi, hkk, _⟩ := ti_facts ht
  rw [hk] at hkk
  obtain ⟨l, rfl, hl⟩ := tk_struct hkk
  obtain ⟨f, hlf, hfi⟩ := fisOf_get hl hf
  obtain ⟨d', i', hu', hi', rfl⟩ := fi_facts hfi
  have hlf' : l[fd]? = some f := by simpa using hlf
  unfold M.field at h
  cases hx with
  | agg h1 hl' hr =>
    rename_i cs vs
    simp only at h
    -- the type of the field as our own
    obtain ⟨q, a, b⟩ : ∃ q, (part f.type ⟨vs⟩ f.offset).run P w = .ok q w ∧ Rep g r q := by
      have hr' : Reps g cs vs := ⟨hl', hr⟩
      clear hr hl'
      -- as in ldc_rep, without its kind
      unfold M.ldc at h
      have hl2 := hr'.1
      by_cases hag : isAggD d' = true
      · rw [hag] at h
        simp only [if_true] at h
        split at h
        · cases h
          have hr2 := (hr'.drop f.offset).take i'.size
          refine ⟨.agg ⟨(vs.drop f.offset).take i'.size⟩, ?_, .agg (fun v hv => h1 v (List.mem_of_mem_drop (List.mem_of_mem_take hv))) hr2.1 hr2.2⟩
          simp only [part, Sem.run_bind, run_agg hu', Result.andThen_ok, hag, if_true, run_size hi', Sem.run_pure]
          congr 2
          apply Array.ext_getElem?
          intro j
          simp only [Array.getElem?_extract, List.getElem?_toArray, List.getElem?_take, List.getElem?_drop, List.size_toArray]
          by_cases hj : j < i'.size
          · rw [if_pos hj]
            by_cases h2 : f.offset + j < vs.length
            · rw [if_pos (by omega)]
            · rw [if_neg (by omega), List.getElem?_eq_none (by omega)]
          · rw [if_neg (by omega), if_neg hj]
        · cases h
      · simp only [Bool.not_eq_true] at hag
        rw [hag] at h
        simp only [Bool.false_eq_true, if_false] at h
        cases hx : cs[f.offset]? with
        | none => rw [hx] at h; cases h
        | some c =>
          rw [hx] at h; cases h
          obtain ⟨v, hv, hrv⟩ := hr'.get hx
          refine ⟨v, ?_, hrv⟩
          have hv' : (Array.mk vs)[f.offset]? = some v := by simpa using hv
          simp only [part, Sem.run_bind, run_agg hu', Result.andThen_ok, hag, Bool.false_eq_true, if_false, hv', Sem.run_pure]
    exact ⟨q, by simp only [Instr.field, Sem.run_bind, run_und hu, Result.andThen_ok, hlf', asAgg, Sem.run_pure, a], b⟩
  | _ => cases h

theorem indexAgg_sound {P : Program} {g : Gh} {t : TypeId} {ti te : TI} {e len : Nat} (ht : tiOf P t = some ti) (hk : ti.k = .array len e) (he : tiOf P e = some te) {x i r : AV} {v u : Value} (hx : Rep g x v) (hi : Rep g i u)
    (h : M.indexAgg te.agg len te.sz x i = .ok r) (w : World) : ∃ q, (Instr.index t v u).run P w = .ok q w ∧ Rep g r q := by
  obtain ⟨d, inf, hu, _, hkk, _⟩ := ti_facts ht
  rw [hk] at hkk
  obtain rfl := tk_array hkk
  obtain ⟨_, ie, _, hie, _, _, hsz, _, _⟩ := ti_facts he
  unfold M.indexAgg at h
  cases hx with
  | agg h1 hl hr =>
    cases hi with
    | int k n =>
      simp only at h
      split at h
      · rename_i hh
        obtain ⟨q, a, b⟩ := ldc_rep he ⟨hl, hr⟩ h1 h w
        refine ⟨q, ?_, b⟩
        rw [hsz] at a
        simp only [Instr.index, asIntOf, Sem.run_bind, Sem.run_pure, Result.andThen_ok, run_und hu, hh, and_self, if_true, run_size hie, a]
      · cases h
    | _ => cases h
  | _ => cases hi <;> cases h

theorem extract_sound {P : Program} {g : Gh} {i : Nat} {x r : AV} {v : Value} (hx : Rep g x v) (h : M.extract i x = .ok r) (w : World) : ∃ q, (Instr.extract v i).run P w = .ok q w ∧ Rep g r q := by
  unfold M.extract at h
  cases hx with
  | tup hl hr =>
    rename_i cs vs
    simp only at h
    cases hc : cs[i]? with
    | none => rw [hc] at h; cases h
    | some c =>
      rw [hc] at h; cases h
      obtain ⟨q, hq, hrq⟩ := Reps.get (g := g) ⟨hl, hr⟩ hc
      have hq' : (Array.mk vs)[i]? = some q := by simpa using hq
      exact ⟨q, by simp only [Instr.extract, hq', Sem.run_pure], hrq⟩
  | _ => cases h

/- ### Texts and bytes -/
theorem bytesOf_vals {g : Gh} : ∀ {cs : List AV} {vs : List Value} {l : List UInt8}, Reps g cs vs → M.bytesOf cs = some l → ∃ ns : List Int, vs = ns.map (Value.int .u8) ∧ ns.map (fun n => UInt8.ofNat n.toNat) = l
  | [], vs, l, hr, h => by
    simp [M.bytesOf] at h; subst h
    have := hr.1; simp at this
    have hv : vs = [] := List.eq_nil_of_length_eq_zero this.symm
    subst hv
    exact ⟨[], rfl, rfl⟩
  | c :: cs, vs, l, hr, h => by
    cases vs with
    | nil => have := hr.1; simp at this
    | cons v vs =>
      simp only [M.bytesOf] at h
      cases h1 : M.byteOf c with
      | none => rw [h1] at h; cases h
      | some b =>
        cases h2 : M.bytesOf cs with
        | none => rw [h1, h2] at h; cases h
        | some bs =>
          rw [h1, h2] at h; cases h
          obtain ⟨ns, rfl, rfl⟩ := bytesOf_vals (g := g) (cs := cs) (vs := vs) ⟨by have := hr.1; simpa using this, fun j c u hc hu => hr.2 (j + 1) c u hc hu⟩ h2
          have hv := hr.2 0 c v rfl rfl
          unfold M.byteOf at h1
          split at h1
          · cases hv; cases h1; exact ⟨_ :: ns, rfl, rfl⟩
          · cases h1

theorem foldl_push : ∀ (ns : List Int) (s : ByteArray), ns.foldl (fun r n => r.push (UInt8.ofNat n.toNat)) s = ⟨s.data ++ (ns.map (fun n => UInt8.ofNat n.toNat)).toArray⟩
  | [], s => by simp
  | n :: ns, s => by rw [List.foldl_cons, foldl_push ns]; simp [ByteArray.push]

theorem toStr_sound {P : Program} {g : Gh} {L : Locs} {H : Heap} {w : World} (R : Rel g L H w.heap) {src dst e : TypeId} {ts td te : TI} (h1 : tiOf P src = some ts) (hk1 : ts.k = .slice e) (h2 : tiOf P dst = some td) (hk2 : td.k = .string)
    (he : tiOf P e = some te) (hke : te.k = .int .u8) {x r : AV} {v : Value} (hx : Rep g x v) (h : M.toStr x H = .ok r) : ∃ q, (convert src dst v).run P w = .ok q w ∧ Rep g r q := by
  obtain ⟨d1, i1, hu1, _, hkk1, _⟩ := ti_facts h1
  obtain ⟨d2, i2, hu2, _, hkk2, _⟩ := ti_facts h2
  obtain ⟨d3, i3, hu3, _, hkk3, _⟩ := ti_facts he
  rw [hk1] at hkk1; rw [hk2] at hkk2; rw [hke] at hkk3
  obtain rfl := tk_slice hkk1
  obtain rfl := tk_string hkk2
  obtain rfl := tk_int hkk3
  unfold M.toStr at h
  split at h
  · cases h
  rename_i hstr
  have hns : ∀ l, x ≠ .str l := fun l e => by subst e; exact hstr rfl
  obtain ⟨⟨n, cs⟩, hc, hh⟩ := Out.bind_ok h
  clear h
  simp only at hh
  split at hh
  · rename_i l hl
    cases hh
    obtain ⟨vs, xl, xr, xo, xn, xf⟩ := cellsOf_sound P R (by omega) hx hc
    obtain ⟨ns, rfl, hnl⟩ := bytesOf_vals xr hl
    have hf := xf n w rfl (Nat.le_refl _)
    have hlen : (ns.map (Value.int .u8)).length = n * 1 := by rw [← xr.1, xn]
    rw [← hlen, List.take_length] at hf
    have conc : ∀ a len cap, v = .slice a len cap → ∃ q, (convert src dst v).run P w = .ok q w ∧ Rep g (.str l) q := by
      intro a len cap hv
      subst hv
      have hlenn : len = n := by
        have := xl w; simp [Builtin.lenOf] at this; exact this
      subst hlenn
      rw [run_convert_bytes_string w src dst e a len cap hu1 hu3 hu2]
      cases a with
      | none =>
        refine ⟨.string ByteArray.empty, by simp [Conv.bytesToString], ?_⟩
        simp only [Builtin.firstCells, Sem.run_pure] at hf
        have : ns = [] := by
          have e1 : (#[] : Array Value) = (ns.map (Value.int .u8)).toArray := by injection hf with e1 _
          have : (ns.map (Value.int .u8)) = [] := by simpa using e1.symm
          simpa using this
        subst this
        simp at hnl; subst hnl
        exact .str []
      | some a =>
        have hload : (loadCells a len).run P w = .ok (ns.map (Value.int .u8)).toArray w := by simpa [Builtin.firstCells] using hf
        rw [run_bytesToString w a len cap ns hload, foldl_push]
        refine ⟨_, rfl, ?_⟩
        have : (⟨ByteArray.empty.data ++ (ns.map (fun n => UInt8.ofNat n.toNat)).toArray⟩ : ByteArray) = ⟨⟨l⟩⟩ := by rw [hnl]; apply ByteArray.ext; simp
        rw [this]
        exact .str l
    cases hx with
    | sl hρ hl ha => exact conc _ _ _ rfl
    | isl cv hl h0 hi hr => exact conc _ _ _ rfl
    | v hp =>
      unfold M.cellsOf at hc
      split at hc
      · rename_i hv; cases hv
      · rename_i hv; cases hv
      · rename_i hv; cases hv; exact conc _ _ _ rfl
      · rename_i hv; cases hv
      · cases hc
    | str s => exact absurd rfl (hns s)
    | _ => unfold M.cellsOf at hc; cases hc
  · cases hh

theorem toBytes_sound {P : Program} {g : Gh} {L : Locs} {H H' : Heap} {w : World} (R : Rel g L H w.heap) {src dst e : TypeId} {ts td te : TI} (h1 : tiOf P src = some ts) (hk1 : ts.k = .string) (h2 : tiOf P dst = some td) (hk2 : td.k = .slice e)
    (he : tiOf P e = some te) (hke : te.k = .int .u8) {x r : AV} {v : Value} (hx : Rep g x v) (h : M.toBytes e x H = .ok (r, H')) :
    ∃ q w' g', (convert src dst v).run P w = .ok q w' ∧ Keep w w' ∧ Ext g g' ∧ (∀ j y, g.l j = some y → g'.l j = some y) ∧ Rel g' L H' w'.heap ∧ Rep g' r q := by
  obtain ⟨d1, i1, hu1, _, hkk1, _⟩ := ti_facts h1
  obtain ⟨d2, i2, hu2, _, hkk2, _⟩ := ti_facts h2
  obtain ⟨d3, i3, hu3, _, hkk3, _⟩ := ti_facts he
  rw [hk1] at hkk1; rw [hk2] at hkk2; rw [hke] at hkk3
  obtain rfl := tk_string hkk1
  obtain rfl := tk_slice hkk2
  obtain rfl := tk_int hkk3
  cases h

end Go.Proofs.YtnhblghplohonaaGreatDoor.Ab
