/- The abstract machine: an operation of a frame does what the model's does. -/
import Derived.Test.YtnhblghplohonaaGreatDoorAbH
set_option linter.unusedSimpArgs false
set_option linter.unusedVariables false
namespace Go.Proofs.YtnhblghplohonaaGreatDoor.Ab
open Go

theorem upon_val {P : Program} {o : Oper} {a : Act} {next : Act → World → Prop} {Q : Exit → Act → World → Prop} {s : Sem Next} {w w' : World} {v : Value} (h : s.run P w = .ok (.value v) w') (hn : next (a.put o.dst v) w') :
    o.upon P a next Q (s.run P w) := by rw [h]; exact hn
theorem upon_skip {P : Program} {o : Oper} {a : Act} {next : Act → World → Prop} {Q : Exit → Act → World → Prop} {s : Sem Next} {w w' : World} (h : s.run P w = .ok .skip w') (hn : next (a.put o.dst undef) w') :
    o.upon P a next Q (s.run P w) := by rw [h]; exact hn
theorem run_v {P : Program} {s : Sem Value} {w w' : World} {q : Value} (h : s.run P w = .ok q w') : (do pure (Next.value (← s)) : Sem Next).run P w = .ok (.value q) w' := by
  simp only [Sem.run_bind, h, Result.andThen_ok, Sem.run_pure]
theorem run_u {P : Program} {s : Sem Unit} {w w' : World} (h : s.run P w = .ok () w') : (do s; pure Next.skip : Sem Next).run P w = .ok .skip w' := by
  simp only [Sem.run_bind, h, Result.andThen_ok, Sem.run_pure]
theorem rep_undef (g : Gh) : Rep g undefA undef := .tup (vs := []) rfl (fun j c v h => by simp at h)

theorem newVar_run {P : Program} {w : World} {t : TypeId} {v : Value} : (newVar t v).run P w = .ok ⟨w.heap.size, 0, none⟩ { w with heap := w.heap.push (.cells v.cells t) } := by
  simp [newVar, newRow]

theorem cellsT_ok {x : AV} {cs : List AV} (h : M.cellsT x = .ok cs) : x.one = true ∧ cs = x.cells := by
  unfold M.cellsT at h; split at h
  · rename_i h1; cases h; exact ⟨h1, rfl⟩
  · cases h

theorem map_toList {α β : Type} (c : Array α) (f : α → β) : c.map f = ⟨c.toList.map f⟩ := by
  apply Array.ext'; simp

/-- A frozen literal. -/
theorem chunks_rep : ∀ (n : Nat) (agg : Bool) (sz : Nat) (cs : List AV) (k j : Nat) (x c : AV), (∀ c ∈ cs, c.cells = [c]) → cs.length = n * sz → (agg = false → sz = 1) → (chunks agg sz n cs)[k]? = some x → x.cells[j]? = some c → cs[k * sz + j]? = some c
  | 0, agg, sz, cs, k, j, x, c, _, _, _, hx, _ => by simp [chunks] at hx
  | n + 1, agg, sz, cs, k, j, x, c, hone, hlen, hag, hx, hc => by
    simp only [chunks] at hx
    cases k with
    | zero =>
      simp only [List.getElem?_cons_zero, Option.some.injEq] at hx
      subst hx
      cases agg with
      | true =>
        simp only [if_true, AV.cells] at hc
        rw [List.getElem?_take] at hc
        split at hc
        · simpa using hc
        · cases hc
      | false =>
        obtain rfl := hag rfl
        simp only [Bool.false_eq_true, if_false] at hc
        cases cs with
        | nil => simp at hlen
        | cons c0 cs =>
          simp only [List.getElem?_cons_zero, Option.getD_some] at hc
          rw [hone c0 List.mem_cons_self] at hc
          cases j with
          | zero => simpa using hc
          | succ j => simp at hc
    | succ k =>
      simp only [List.getElem?_cons_succ] at hx
      have := chunks_rep n agg sz (cs.drop sz) k j x c (fun c hc => hone c (List.mem_of_mem_drop hc)) (by simp [hlen, Nat.add_mul]) hag hx hc
      rw [List.getElem?_drop] at this
      rw [← this]; congr 1; rw [Nat.add_mul]; omega
theorem chunks_length : ∀ (n : Nat) (agg : Bool) (sz : Nat) (cs : List AV), (chunks agg sz n cs).length = n
  | 0, _, _, _ => rfl
  | n + 1, agg, sz, cs => by simp [chunks, chunks_length n]

/-- A block that nobody writes comes. -/
def Gh.frozen (g : Gh) (hs : Nat) (ob : Obj) : Gh := { g with I := fun cb => if cb = hs then some ob else g.I cb, Fr := fun cb => if cb = hs then some ob else g.Fr cb }
theorem Rel.frozen {g : Gh} {L : Locs} {H : Heap} {h : Array Obj} (R : Rel g L H h) (ob : Obj) : Rel (g.frozen h.size ob) L H (h.push ob) ∧ Ext g (g.frozen h.size ob) := by
  have hI : ∀ cb x, g.I cb = some x → cb ≠ h.size := fun cb x hx e => by have := some_lt (R.fr cb x (R.im cb x hx)).1; omega
  have hF : ∀ cb x, g.Fr cb = some x → cb ≠ h.size := fun cb x hx e => by have := some_lt (R.fr cb x hx).1; omega
  have e : Ext g (g.frozen h.size ob) := ⟨fun _ _ h => h, fun cb x hx => by simp only [Gh.frozen]; rw [if_neg (hI cb x hx)]; exact hx, fun cb x hx => by simp only [Gh.frozen]; rw [if_neg (hF cb x hx)]; exact hx, fun cb hne => by
    simp only [Gh.frozen]
    cases hx : g.Fr cb with
    | none => exact absurd hx hne
    | some x => rw [if_neg (hF cb x hx)]⟩
  refine ⟨⟨fun cb x hx => ?_, fun cb x hx => ?_, R.dom, fun b x hb => ?_, fun j cs hj => ?_, fun cb x hx => ?_⟩, e⟩
  · simp only [Gh.frozen] at hx
    split at hx
    · rename_i hc
      cases hx
      subst hc
      refine ⟨by simp, ?_⟩
      cases ho : g.o h.size with
      | none => exact ho
      | some y => have := R.own _ y ho; omega
    · obtain ⟨a, b⟩ := R.fr cb x hx
      exact ⟨(push_old (some_lt a)).trans a, b⟩
  · simp only [Gh.frozen] at hx ⊢
    split at hx
    · rename_i hc; rw [if_pos hc]; exact hx
    · rename_i hc; rw [if_neg hc]; exact R.im cb x hx
  · obtain ⟨cb, base, top, h1, h2, h3⟩ := R.blk b x hb
    have hlt := R.own cb _ h2
    exact ⟨cb, base, top, h1, h2, (h3.of_heap (push_old hlt)).mono e⟩
  · obtain ⟨cb, arr, h1, h2, h3, h4, h5⟩ := R.loc j cs hj
    have hlt := R.own cb _ h2
    exact ⟨cb, arr, h1, h2, h3.of_heap (push_old hlt), h4.mono e, h5⟩
  · have := R.own cb x hx; simp; omega

theorem reps_replicate {g : Gh} {l : List AV} {vs : List Value} (h : Reps g l vs) : ∀ n, Reps g (List.replicate n l).flatten (List.replicate n vs).flatten
  | 0 => .nil g
  | n + 1 => by rw [List.replicate_succ, List.flatten_cons, List.replicate_succ, List.flatten_cons]; exact h.append (reps_replicate h n)

section
variable {β : Type} {X : Ctx} {f : Nat} {Γ : CallsT}

/-- What is asked of what follows. -/
def Goes (X : Ctx) (f : Nat) (g : Gh) (w : World) (H : Heap) (a : Act) (o : Oper) (k : EV → Env → Locs → Heap → Out β) (r : β) (next : Act → World → Prop) : Prop :=
  ∀ e E' L' H' g' v w', k e E' L' H' = .ok r → Ext g g' → (∀ j y, (newLoc X f o = true → o.dst ≠ some j) → g.l j = some y → g'.l j = some y) → StepW w w' H H' → Rel g' L' H' w'.heap → RelE g' E' a.tmps → RepE g' e v → next (a.put o.dst v) w'

theorem new_sound {o : Oper} {E : Env} {L : Locs} {H : Heap} {k : EV → Env → Locs → Heap → Out β} {r : β} {g : Gh} {a : Act} {w : World} (R : Rel g L H w.heap) (hE : RelE g E a.tmps)
    {next : Act → World → Prop} {Q : Exit → Act → World → Prop} (hn : Goes X f g w H a o k r next) {t : TypeId} {z : AV} {v : Value} {s : Sem Next} {P : Program} (hz : Rep g z v)
    (hs : s.run P w = .ok (.value (.pointer (some ⟨w.heap.size, 0, none⟩))) { w with heap := w.heap.push (.cells v.cells t) })
    (hnl : ∀ d, o.dst = some d → X.loc f d = true → newLoc X f o = true)
    (h : newEv X f t z o.dst E L H k = .ok r) : o.upon P a next Q (s.run P w) := by
  unfold newEv at h
  obtain ⟨cs, hcs, h⟩ := Out.bind_ok h
  obtain ⟨d, hd, h⟩ := onO_ok h
  obtain ⟨ho, rfl⟩ := cellsT_ok hcs
  have hr := hz.cells
  have h1 := hz.cells_one ho
  split at h
  · rename_i hloc
    refine upon_val hs (hn _ _ _ _ (g.allocLoc d w.heap.size) _ _ h (Gh.allocLoc_ext g d _) (fun j y hj hy => by simp only [Gh.allocLoc]; rw [if_neg (fun e => hj (hnl _ hd hloc) (by rw [e]; exact hd))]; exact hy) ⟨.refl H, rfl, rfl⟩ ?_ hE.dropLoc ?_)
    · have := R.allocLoc (e := t) d hr h1
      simpa using this
    · exact ⟨w.heap.size, by simp [Gh.allocLoc], rfl⟩
  · have e := Gh.alloc_ext R v.cells.size
    refine upon_val hs (hn _ _ _ _ (g.alloc H.n w.heap.size v.cells.size) _ _ h e (fun _ _ _ h => h) ⟨.alloc H _, rfl, rfl⟩ ?_ (hE.mono e (fun _ _ h => h)) ?_)
    · exact R.alloc (e := t) (e' := t) (fz := (0, 0)) hr h1 (fun j hj => by simp) (by simp) (fun i _ => by omega)
    · show Rep _ _ _
      have hρ : (g.alloc H.n w.heap.size v.cells.size).ρ H.n = some (w.heap.size, 0, v.cells.size) := by simp [Gh.alloc]
      have : Rep (g.alloc H.n w.heap.size v.cells.size) (.ref H.n 0) (.pointer (some ⟨w.heap.size, 0 + 0, none⟩)) := .ref hρ
      simpa using this

theorem zero_val {P : Program} {t : TypeId} {ti : TI} (ht : tiOf P t = some ti) {z : AV} (hz : ti.zero = some z) : ∃ i zv, P.info? t = some i ∧ i.zero = some zv ∧ ofV zv = some z := by
  obtain ⟨d, i, hu, hi, _, _, _, _, hz'⟩ := ti_facts ht
  rw [hz'] at hz
  cases hq : i.zero with
  | none => rw [hq] at hz; cases hz
  | some q => rw [hq] at hz; exact ⟨i, q, hi, hq, hz⟩

theorem store_step {sz : Nat} {p x : AV} {H H' : Heap} (hs : M.store sz p x H = .ok H') : Step H H' := by
  unfold M.store at hs
  split at hs
  · split at hs
    · obtain ⟨_, _, h⟩ := Out.bind_ok hs; cases h; exact .set _ _ _
    · cases hs
  · cases hs
theorem append_step {e sz b : Nat} {s x v : AV} {H H' : Heap} (h : M.append e sz b s x H = .ok (v, H')) : Step H H' := by
  unfold M.append at h
  obtain ⟨_, _, h⟩ := Out.bind_ok h
  obtain ⟨_, _, h⟩ := Out.bind_ok h
  split at h
  · split at h
    · cases h; exact (Step.kill _ _).trans (.alloc _ _)
    · split at h <;> cases h
      · exact .refl _
      · exact .alloc _ _
    · cases h
  · cases h
theorem copy_step {sz : Nat} {d s v : AV} {H H' : Heap} (h : M.copy sz d s H = .ok (v, H')) : Step H H' := by
  unfold M.copy at h
  split at h
  · obtain ⟨_, _, h⟩ := Out.bind_ok h
    split at h
    · split at h <;> cases h
      exact .set _ _ _
    · cases h
  · obtain ⟨_, _, h⟩ := Out.bind_ok h; cases h; exact .refl _
  · cases h
theorem mapUpdate_step {P : Program} {kt : TypeId} {m k v : AV} {H H' : Heap} (h : M.mapUpdate P kt m k v H = .ok H') : Step H H' := by
  unfold M.mapUpdate at h
  split at h
  · split at h
    · split at h
      · obtain ⟨_, _, h⟩ := Out.bind_ok h; cases h; exact .set _ _ _
      · cases h
    · cases h
  · cases h

set_option maxHeartbeats 2000000 in
theorem opEv_sound (hX : X.Ok) (hΓ : Good X Γ) {o : Oper} {E : Env} {L : Locs} {H : Heap} {k : EV → Env → Locs → Heap → Out β} {r : β} (h : opEv X f Γ o E L H k = .ok r) {g : Gh} {a : Act} {w : World}
    (R : Rel g L H w.heap) (hE : RelE g E a.tmps) (hG : GlobOk X g) {next : Act → World → Prop} {Q : Exit → Act → World → Prop} (hn : Goes X f g w H a o k r next) :
    o.upon X.P a next Q ((execOp a.eval o).run X.P w) := by
  have hval : ∀ {v : AV} {q : Value} {s : Sem Next}, s.run X.P w = .ok (.value q) w → Rep g v q → k (.val v) E L H = .ok r → o.upon X.P a next Q (s.run X.P w) := fun hs hr hk =>
    upon_val hs (hn _ _ _ _ g _ w hk (.refl g) (fun _ _ _ h => h) (.refl H) R hE hr)
  have hloc : ∀ {j off cb : Nat} {s : Sem Next}, s.run X.P w = .ok (.value (.pointer (some ⟨cb, off, none⟩))) w → g.l j = some cb → k (.loc j off) E L H = .ok r → o.upon X.P a next Q (s.run X.P w) := fun hs hl hk =>
    upon_val hs (hn _ _ _ _ g _ w hk (.refl g) (fun _ _ _ h => h) (.refl H) R hE ⟨_, hl, rfl⟩)
  have hvals : ∀ {v : AV} {s : Sem Value}, (∃ q, s.run X.P w = .ok q w ∧ Rep g v q) → k (.val v) E L H = .ok r → o.upon X.P a next Q ((do pure (Next.value (← s)) : Sem Next).run X.P w) := fun ⟨q, hs, hr⟩ hk => hval (run_v hs) hr hk
  have hheap : ∀ {v : AV} {q : Value} {s : Sem Value} {w' : World} {g' : Gh} {H' : Heap}, s.run X.P w = .ok q w' → Ext g g' → (∀ j y, g.l j = some y → g'.l j = some y) → StepW w w' H H' → Rel g' L H' w'.heap → Rep g' v q → k (.val v) E L H' = .ok r →
      o.upon X.P a next Q ((do pure (Next.value (← s)) : Sem Next).run X.P w) := fun hs he hl hst hR hr hk => upon_val (run_v hs) (hn _ _ _ _ _ _ _ hk he (fun j y _ h => hl j y h) hst hR (hE.mono he hl) hr)
  have hskip : ∀ {s : Sem Unit} {w' : World} {L' : Locs} {H' : Heap}, s.run X.P w = .ok () w' → StepW w w' H H' → Rel g L' H' w'.heap → k (.val undefA) E L' H' = .ok r →
      o.upon X.P a next Q ((do s; pure Next.skip : Sem Next).run X.P w) := fun hs hst hR hk => upon_skip (run_u hs) (hn _ _ _ _ g _ _ hk (.refl g) (fun _ _ _ h => h) hst hR hE (rep_undef g))
  unfold opEv at h
  unfold execOp
  cases hop : o.op <;> simp only [hop] at h ⊢ <;> try (cases h; done)
  case move x =>
    cases x with
    | tmp t =>
      obtain ⟨e, he, h⟩ := onO_ok h
      exact upon_val rfl (hn _ _ _ _ g _ w h (.refl g) (fun _ _ _ h => h) (.refl H) R hE (tmp_eval hE he))
    | _ => obtain ⟨v, h1, h2⟩ := onO_ok h; exact hval rfl (eval_rep hE hG h1) h2
  case assign x =>
    cases x with
    | tmp t =>
      obtain ⟨e, he, h⟩ := onO_ok h
      exact upon_val rfl (hn _ _ _ _ g _ w h (.refl g) (fun _ _ _ h => h) (.refl H) R hE (tmp_eval hE he))
    | _ => obtain ⟨v, h1, h2⟩ := onO_ok h; exact hval rfl (eval_rep hE hG h1) h2
  case pick c x y =>
    obtain ⟨vc, h1, h2⟩ := onO_ok h
    obtain ⟨vx, h3, h4⟩ := onO_ok h2
    obtain ⟨vy, h5, h6⟩ := onO_ok h4
    obtain ⟨v, h7, h8⟩ := Out.bind_ok h6
    have rc := eval_rep hE hG h1
    have rx := eval_rep hE hG h3
    have ry := eval_rep hE hG h5
    unfold M.pick at h7
    generalize a.eval c = qc at rc
    split at h7
    · cases h7
      cases rc
      exact hval (by simp only [Sem.run_bind, asBool, Sem.run_pure, Result.andThen_ok, if_true]) rx h8
    · cases h7
      cases rc
      exact hval (by simp only [Sem.run_bind, asBool, Sem.run_pure, Result.andThen_ok, Bool.false_eq_true, if_false]) ry h8
    · cases h7
  case alloc t =>
    obtain ⟨ti, h1, h2⟩ := onO_ok h
    obtain ⟨z, h3, h4⟩ := onO_ok h2
    obtain ⟨i, zv, hi, hzv, hzr⟩ := zero_val (hX.T _ _ h1) h3
    refine new_sound (X := X) (f := f) R hE hn (rep_ofV hzr) ?_ (fun d hd hl => by simp [newLoc, hop, hd, hl]) h4
    apply run_v
    simp only [Instr.alloc, Sem.run_bind, run_zero hi hzv, Result.andThen_ok, newVar_run, Sem.run_pure]
  case box t x =>
    obtain ⟨z, h3, h4⟩ := onO_ok h
    refine new_sound (X := X) (f := f) R hE hn (eval_rep hE hG h3) ?_ (fun d hd hl => by simp [newLoc, hop, hd, hl]) h4
    apply run_v
    simp only [Instr.box, Sem.run_bind, Result.andThen_ok, newVar_run, Sem.run_pure]
  case load t x =>
    obtain ⟨ti, h1, h2⟩ := onO_ok h
    have ht := hX.T _ _ h1
    cases hx : tmpOf x with
    | none =>
      rw [hx] at h2
      obtain ⟨p, h3, h4⟩ := onO_ok h2
      obtain ⟨v, h5, h6⟩ := Out.bind_ok h4
      exact hvals (load_sound R ht (eval_rep hE hG h3) h5) h6
    | some i =>
      obtain rfl := tmpOf_some hx
      rw [hx] at h2
      rcases onE_ok h2 with ⟨j, off, he, h3⟩ | ⟨p, he, h3⟩
      · obtain ⟨cs, hc, h4⟩ := onO_ok h3
        obtain ⟨v, h5, h6⟩ := Out.bind_ok h4
        obtain ⟨cb, hl, hv⟩ := tmp_eval hE he
        obtain ⟨cb', arr, q1, q2, ⟨ty, fz, q3, _⟩, q4, q5⟩ := R.loc j cs hc
        rw [q1] at hl; cases hl
        have hca : CellsAt g w.heap cb 0 cs := ⟨arr, ty, fz, q3, fun n c hc => by
          obtain ⟨u, a1, a2⟩ := q4.get hc
          exact ⟨u, by simpa using a1, a2, q5 u (List.mem_of_getElem? a1)⟩⟩
        obtain ⟨q, a1, a2⟩ := load_cells ht hca h5
        refine hvals ⟨q, ?_, a2⟩ h6
        rw [hv]
        simpa [Instr.loadAt, Instr.sureAddr] using a1
      · obtain ⟨v, h5, h6⟩ := Out.bind_ok h3
        exact hvals (load_sound R ht (tmp_eval hE he) h5) h6
  case store t x y =>
    obtain ⟨ti, h1, h2⟩ := onO_ok h
    obtain ⟨vy, hy, h2⟩ := onO_ok h2
    have ry := eval_rep hE hG hy
    have ht := hX.T _ _ h1
    cases hx : tmpOf x with
    | none =>
      rw [hx] at h2
      obtain ⟨p, h3, h4⟩ := onO_ok h2
      obtain ⟨H', h5, h6⟩ := Out.bind_ok h4
      obtain ⟨w', a1, kp, a2⟩ := store_sound (P := X.P) R ht (eval_rep hE hG h3) ry h5
      exact hskip a1 ⟨store_step h5, kp⟩ a2 h6
    | some i =>
      obtain rfl := tmpOf_some hx
      rw [hx] at h2
      rcases onE_ok h2 with ⟨j, off, he, h3⟩ | ⟨p, he, h3⟩
      · obtain ⟨cs, hc, h4⟩ := onO_ok h3
        obtain ⟨cs', h5, h6⟩ := Out.bind_ok h4
        obtain ⟨cb, hl, hv⟩ := tmp_eval hE he
        obtain ⟨cb', w', q1, q2, kp, q3⟩ := storeLoc_sound (P := X.P) R ht hc ry h5
        rw [q1] at hl; cases hl
        exact hskip (by rw [hv]; exact q2) ⟨.refl H, kp⟩ q3 h6
      · obtain ⟨H', h5, h6⟩ := Out.bind_ok h3
        obtain ⟨w', a1, kp, a2⟩ := store_sound (P := X.P) R ht (tmp_eval hE he) ry h5
        exact hskip a1 ⟨store_step h5, kp⟩ a2 h6
  case nilCheck x =>
    cases hx : tmpOf x with
    | none =>
      rw [hx] at h
      obtain ⟨p, h3, h4⟩ := onO_ok h
      obtain ⟨v, h5, h6⟩ := Out.bind_ok h4
      have := nilCheck_sound (eval_rep hE hG h3) h5 (P := X.P) (w := w) hop rfl
      unfold execOp at this
      simp only [hop] at this
      exact hval this.1 this.2 h6
    | some i =>
      obtain rfl := tmpOf_some hx
      rw [hx] at h
      rcases onE_ok h with ⟨j, off, he, h3⟩ | ⟨p, he, h3⟩
      · obtain ⟨cb, hl, hv⟩ := tmp_eval hE he
        exact hloc (by rw [hv]; rfl) hl h3
      · obtain ⟨v, h5, h6⟩ := Out.bind_ok h3
        have := nilCheck_sound (tmp_eval hE he) h5 (P := X.P) (w := w) hop rfl
        unfold execOp at this
        simp only [hop] at this
        exact hval this.1 this.2 h6
  case binOp op t x y ty =>
    obtain ⟨vx, h1, h2⟩ := onO_ok h
    obtain ⟨vy, h3, h4⟩ := onO_ok h2
    obtain ⟨v, h5, h6⟩ := Out.bind_ok h4
    exact hvals (bin_sound (eval_rep hE hG h1) (eval_rep hE hG h3) h5 w) h6
  case unOp op t x =>
    obtain ⟨vx, h1, h2⟩ := onO_ok h
    obtain ⟨v, h5, h6⟩ := Out.bind_ok h2
    exact hvals (un_sound (eval_rep hE hG h1) h5 w) h6
  case convert src dst x =>
    obtain ⟨vx, h1, h2⟩ := onO_ok h
    obtain ⟨ts, h3, h4⟩ := onO_ok h2
    obtain ⟨td, h5, h6⟩ := onO_ok h4
    have rx := eval_rep hE hG h1
    have t1 := hX.T _ _ h3
    have t2 := hX.T _ _ h5
    split at h6
    · rename_i hc
      simp only [Bool.and_eq_true] at hc
      obtain ⟨e, he, h7⟩ := onO_ok h6
      obtain ⟨te, h8, h9⟩ := onO_ok h7
      split at h9
      · rename_i hb
        obtain ⟨⟨v, H'⟩, h10, h11⟩ := Out.bind_ok h9
        obtain ⟨q, w', g', a1, kp, a2, a3, a4, a5⟩ := toBytes_sound (P := X.P) R t1 (isStr_true hc.1) t2 (sliceE_some he) (hX.T _ _ h8) (isByte_true hb) rx h10
        exact hheap a1 a2 a3 (by cases h10) a4 a5 h11
      · cases h9
    · split at h6
      · rename_i hc
        simp only [Bool.and_eq_true] at hc
        obtain ⟨e, he, h7⟩ := onO_ok h6
        obtain ⟨te, h8, h9⟩ := onO_ok h7
        split at h9
        · rename_i hb
          obtain ⟨v, h10, h11⟩ := Out.bind_ok h9
          exact hvals (toStr_sound R t1 (sliceE_some he) t2 (isStr_true hc.1) (hX.T _ _ h8) (isByte_true hb) rx h10) h11
        · cases h9
      · obtain ⟨v, h7, h8⟩ := Out.bind_ok h6
        exact hvals (conv_sound t1 t2 rx h7 w) h8
  case build t parts =>
    obtain ⟨ti, h1, h2⟩ := onO_ok h
    obtain ⟨ps, h3, h4⟩ := onO_ok h2
    obtain ⟨z, h5, h6⟩ := onO_ok h4
    obtain ⟨zc, h7, h8⟩ := Out.bind_ok h6
    have ht := hX.T _ _ h1
    obtain ⟨i, zv, hi, hzv, hzr⟩ := zero_val ht h5
    obtain ⟨hone, rfl⟩ := cellsT_ok h7
    have hzrep := rep_ofV (g := g) hzr
    have hpr := parts_rep hE hG h3
    have hpl : (parts.map fun (x : Nat × Operand) => (x.1, a.eval x.2)).toList = parts.toList.map fun x => (x.1, a.eval x.2) := by simp
    obtain ⟨d, i2, hu, hi2, hkk, _⟩ := ti_facts ht
    rw [hi] at hi2; cases hi2
    have fin : ∀ {pl pl' : Nat → Option (Nat × Nat)} {cs : List AV}, (∀ i x, pl i = some x → pl' i = some x) → M.fill pl z.cells ps = .ok cs →
        ∃ vs : List Value, Instr.fill pl' zv.cells (parts.map fun (x : Nat × Operand) => (x.1, a.eval x.2)).toList = some ⟨vs⟩ ∧ Rep g (.agg cs) (.agg ⟨vs⟩) := fun hp hf => by
      obtain ⟨vs, a1, a2, a3⟩ := fill_sound hp hpr hzrep.cells (hzrep.cells_one hone) hf
      rw [← hpl] at a1
      exact ⟨vs, by simpa using a1, .agg a3 a2.1 a2.2⟩
    split at h8
    · rename_i fs hk
      rw [hk] at hkk
      obtain ⟨l, rfl, hl⟩ := tk_struct hkk
      obtain ⟨cs, h9, h10⟩ := Out.bind_ok h8
      -- the places of the fields
      have hmap : ∀ (l' : List Field) (fs' : List FI), fisOf X.P l' = some fs' → (l'.mapM (m := Sem) fun f => do pure (f.offset, ← sizeOf f.type)).run X.P w = .ok (fs'.map fun x => (x.1, x.2.1)) w := by
        intro l'
        induction l' with
        | nil => intro fs' hf; simp [fisOf] at hf; subst hf; rfl
        | cons f l' ih =>
          intro fs' hf
          simp only [fisOf] at hf
          cases hf1 : fiOf X.P f with
          | none => rw [hf1] at hf; cases hf
          | some y =>
            cases hf2 : fisOf X.P l' with
            | none => rw [hf1, hf2] at hf; cases hf
            | some ys =>
              rw [hf1, hf2] at hf; cases hf
              obtain ⟨d', i', hu', hi', rfl⟩ := fi_facts hf1
              simp only [List.mapM_cons, Sem.run_bind, run_size hi', Result.andThen_ok, Sem.run_pure, ih ys hf2, List.map_cons]
      have hmapA : (l.mapM (m := Sem) fun f => do pure (f.offset, ← sizeOf f.type)).run X.P w = .ok (fs.map fun x => (x.1, x.2.1)).toArray w := by
        rw [Array.mapM_eq_mapM_toList]
        simp only [Sem.run_map, hmap _ _ hl, Result.andThen_ok]
      obtain ⟨vs, a1, a2⟩ := fin (pl' := fun i => ((fs.map fun x => (x.1, x.2.1)).toArray)[i]?) (fun i x hx => by simpa using hx) h9
      refine hvals ⟨_, ?_, a2⟩ h10
      simp only [Instr.build, Sem.run_bind, run_zero hi hzv, Result.andThen_ok, run_und hu, hmapA, a1, Sem.run_pure]
    · rename_i n e hk
      rw [hk] at hkk
      obtain rfl := tk_array hkk
      obtain ⟨te, h9, h10⟩ := onO_ok h8
      obtain ⟨cs, h11, h12⟩ := Out.bind_ok h10
      obtain ⟨_, ie, _, hie, _, _, hsz, _, _⟩ := ti_facts (hX.T _ _ h9)
      obtain ⟨vs, a1, a2⟩ := fin (pl' := fun i => some (i * ie.size, ie.size)) (fun i x hx => by rw [← hsz]; exact hx) h11
      refine hvals ⟨_, ?_, a2⟩ h12
      simp only [Instr.build, Sem.run_bind, run_zero hi hzv, Result.andThen_ok, run_und hu, run_size hie, a1, Sem.run_pure]
    · cases h8
  case buildSlice t n parts =>
    obtain ⟨ti, h1, h2⟩ := onO_ok h
    obtain ⟨ps, h3, h4⟩ := onO_ok h2
    obtain ⟨e, h5, h6⟩ := onO_ok h4
    obtain ⟨te, h7, h8⟩ := onO_ok h6
    obtain ⟨z, h9, h10⟩ := onO_ok h8
    split at h10
    · rename_i hc
      obtain ⟨c1, c2, c3, c4, c5⟩ := hc
      obtain ⟨cs, h11, h12⟩ := Out.bind_ok h10
      obtain ⟨d, h13, h14⟩ := onO_ok h12
      have ht := hX.T _ _ h1
      have hte := hX.T _ _ h7
      obtain ⟨dd, i2, hu, hi2, hkk, _⟩ := ti_facts ht
      rw [sliceE_some h5] at hkk
      obtain rfl := tk_slice hkk
      obtain ⟨_, ie, _, hie, _, hag, hsz, _, _⟩ := ti_facts hte
      obtain ⟨i, zv, hi, hzv, hzr⟩ := zero_val hte h9
      rw [hie] at hi; cases hi
      have hzrep := rep_ofV (g := g) hzr
      have hpr := parts_rep hE hG h3
      have hpl : (parts.map fun (x : Nat × Operand) => (x.1, a.eval x.2)).toList = parts.toList.map fun x => (x.1, a.eval x.2) := by simp
      have hzs : zv.cells.size = te.sz := by have := hzrep.cells.1; simp at this; omega
      have hrz : Reps g (List.replicate n z.cells).flatten (List.replicate n zv.cells.toList).flatten := reps_replicate hzrep.cells n
      have hoz : ∀ v ∈ (List.replicate n zv.cells.toList).flatten, v.oneCell' = true := fun v hv => by
        obtain ⟨l, hl, hv⟩ := List.mem_flatten.1 hv
        obtain ⟨_, rfl⟩ := List.mem_replicate.1 hl
        exact hzrep.cells_one c2 v hv
      obtain ⟨vs, a1, a2, a3⟩ := fill_sound (pl' := fun i => some (i * ie.size, ie.size)) (fun i x hx => by rw [← hsz]; exact hx) hpr hrz hoz h11
      have hfl : ∀ (m : Nat), (List.replicate m zv.cells.toList).flatten = ((Array.range (m * ie.size)).map (fun i => zv.cells[i % zv.cells.size]!)).toList := by
        intro m
        apply List.ext_getElem?
        intro j
        simp only [Array.toList_map, List.getElem?_map, Array.toList_range]
        have key : ∀ (q j : Nat), ((List.replicate q zv.cells.toList).flatten)[j]? = if j < q * te.sz then zv.cells.toList[j % te.sz]? else none := by
          intro q
          induction q with
          | zero => intro j; simp
          | succ q ih =>
            intro j
            rw [List.replicate_succ, List.flatten_cons]
            by_cases hj : j < te.sz
            · rw [List.getElem?_append_left (by simp; omega), if_pos (by rw [Nat.add_mul]; omega), Nat.mod_eq_of_lt hj]
            · rw [List.getElem?_append_right (by simp; omega), Array.length_toList, hzs, ih]
              have hmod : j % te.sz = (j - te.sz) % te.sz := by rw [← Nat.add_mod_right (j - te.sz)]; congr 1; omega
              rw [← hmod]
              by_cases h2 : j - te.sz < q * te.sz
              · rw [if_pos h2, if_pos (by rw [Nat.add_mul]; omega)]
              · rw [if_neg h2, if_neg (by rw [Nat.add_mul]; omega)]
        rw [key]
        by_cases hj : j < m * te.sz
        · rw [if_pos hj, List.getElem?_range (by rw [← hsz]; exact hj)]
          simp only [Option.map_some]
          rw [hzs]
          have hlt : j % te.sz < zv.cells.size := by rw [hzs]; exact Nat.mod_lt _ (by omega)
          rw [getElem!_pos zv.cells _ hlt]
          simp [hlt]
        · rw [if_neg hj, List.getElem?_eq_none (by simp; rw [← hsz]; omega)]
          rfl
      have hrun : (Instr.buildSlice t n (parts.map fun (x : Nat × Operand) => (x.1, a.eval x.2))).run X.P w = .ok (.slice (some ⟨w.heap.size, 0, none⟩) n n) { w with heap := w.heap.push (.cells ⟨vs⟩ e) } := by
        have hbig : ¬ (n * ie.size > 2 ^ 24) := by rw [← hsz]; omega
        have hfl' := hfl n
        have harr : ((Array.range (n * ie.size)).map (fun i => zv.cells[i % zv.cells.size]!)) = ⟨(List.replicate n zv.cells.toList).flatten⟩ := by
          apply Array.ext'; rw [← hfl']
        rw [← hpl] at a1
        simp only [Instr.buildSlice, Sem.run_bind, run_und hu, Result.andThen_ok, run_size hie, hbig, if_false, Sem.run_pure]
        by_cases hz0 : n * ie.size = 0
        · have hn0 : n = 0 := by
            rcases Nat.mul_eq_zero.1 hz0 with h | h
            · exact h
            · omega
          subst hn0
          simp only [Nat.zero_mul, if_true, Sem.run_bind, Sem.run_pure, Result.andThen_ok]
          have e0 : ((Array.range 0).map (fun i => (#[] : Array Value)[i % (#[] : Array Value).size]!)) = ⟨[]⟩ := by apply Array.ext'; simp [show Array.range 0 = #[] from rfl]
          simp only [List.replicate_zero, List.flatten_nil] at a1
          rw [e0, a1]
          simp only [newRow, Sem.run_bind, run_newObj, Result.andThen_ok, Sem.run_pure]
        · simp only [hz0, if_false, Sem.run_bind, run_zero hie hzv, Sem.run_pure, Result.andThen_ok]
          rw [harr, a1]
          simp only [newRow, Sem.run_bind, run_newObj, Result.andThen_ok, Sem.run_pure]
      have hcl : cs.length = n * te.sz := by
        have : ∀ {pl : Nat → Option (Nat × Nat)} {ps : List (Nat × AV)} {c c' : List AV}, M.fill pl c ps = .ok c' → c'.length = c.length := by
          intro pl ps
          induction ps with
          | nil => intro c c' hf; simp only [M.fill] at hf; cases hf; rfl
          | cons p ps ih =>
            intro c c' hf
            obtain ⟨i, x⟩ := p
            simp only [M.fill] at hf
            split at hf
            · cases hf
            · obtain ⟨c1, hs, hf⟩ := Out.bind_ok hf
              obtain ⟨b1, b2, b3, rfl⟩ := stc_ok hs
              rw [ih hf, over_length (by omega)]
        rw [this h11]; simp [c3]
      split at h14
      · -- frozen
        obtain ⟨R', e'⟩ := R.frozen (.cells ⟨vs⟩ e)
        refine upon_val (run_v hrun) (hn _ _ _ _ _ _ _ h14 e' (fun _ _ _ h => h) ⟨.refl H, rfl, rfl⟩ R' (hE.mono e' (fun _ _ h => h)) ?_)
        show Rep _ _ _
        have hlen := chunks_length n te.agg te.sz cs
        have hone : ∀ c ∈ cs, c.cells = [c] := fun c hc => by
          obtain ⟨j, hj, rfl⟩ := List.getElem_of_mem hc
          obtain ⟨v, hv, hr⟩ := a2.get (List.getElem?_eq_getElem hj)
          exact (hr.cells_self (a3 v (List.mem_of_getElem? hv))).1
        have hch : ∀ (k j : Nat) (x c : AV), (chunks te.agg te.sz n cs)[k]? = some x → x.cells[j]? = some c → cs[k * te.sz + j]? = some c := fun k j x c hx hc =>
          chunks_rep n te.agg te.sz cs k j x c hone hcl (fun hf => by rcases c5 with h | h <;> simp_all) hx hc
        have hIc : ∀ j, cellI (g.frozen w.heap.size (.cells ⟨vs⟩ e)).I w.heap.size j = vs[j]? := fun j => by simp [cellI, Gh.frozen]
        have hrep := Rep.isl (g := g.frozen w.heap.size (.cells ⟨vs⟩ e)) (sz := te.sz) (cap := n) (cb := w.heap.size) (o := 0) (xs := chunks te.agg te.sz n cs) (A := some ⟨w.heap.size, 0, none⟩)
          (fun i j => vs.getD (i * te.sz + j) undef) (by omega) (fun _ => rfl) (fun i j x c hx hc => by
            obtain ⟨v, hv, hr⟩ := a2.get (hch i j x c hx hc)
            rw [Nat.zero_add, hIc, List.getD_eq_getElem?_getD, hv]
            exact ⟨rfl, a3 v (List.mem_of_getElem? hv)⟩) (fun i j x c hx hc => by
            obtain ⟨v, hv, hr⟩ := a2.get (hch i j x c hx hc)
            rw [List.getD_eq_getElem?_getD, hv]
            exact hr.mono e')
        rw [hlen] at hrep
        exact hrep
      · have e' := Gh.alloc_ext R vs.length
        have hsz3 : n * te.sz ≤ vs.length := by have := a2.1; omega
        refine hheap hrun e' (fun _ _ h => h) ⟨.alloc H _, rfl, rfl⟩ (R.alloc (arr := ⟨vs⟩) (e := e) (e' := e) (fz := (0, 0)) a2 a3 (fun j hj => by simp) (by simp) (fun i _ => by omega)) ?_ h14
        exact .sl (cb := w.heap.size) (base := 0) (top := vs.length) (by simp [Gh.alloc]) (Nat.le_refl _) (fun _ => ⟨by simp, by omega⟩)
    · cases h10
  case makeInterface t x =>
    obtain ⟨vx, h1, h2⟩ := onO_ok h
    obtain ⟨ti, h3, h4⟩ := onO_ok h2
    split at h4
    · cases h4
    · rename_i hni
      obtain ⟨d, i, hu, _, hkk, _⟩ := ti_facts (hX.T _ _ h3)
      have hnd := tk_noiface hkk (fun e => hni (by rw [e]; rfl))
      refine hvals ⟨_, ?_, .ifc (eval_rep hE hG h1)⟩ h4
      cases d <;> first
        | (exact absurd rfl (hnd _))
        | (simp only [Instr.makeInterface, Sem.run_bind, run_und hu, Result.andThen_ok, Sem.run_pure])
  case makeFunc fn first cap =>
    obtain ⟨gf, h1, h2⟩ := onO_ok h
    obtain ⟨fs, h3, h4⟩ := onO_ok h2
    obtain ⟨cs, h5, h6⟩ := onO_ok h4
    have hf : fn = .func gf := by cases fn <;> simp [funcOf] at h1; rw [h1]
    subst hf
    have r1 := evals_rep hE hG h3
    have r2 := evals_rep hE hG h5
    refine hvals ⟨_, rfl, ?_⟩ h6
    rw [map_toList, map_toList]
    exact .fn r1.1 r1.2 r2.1 r2.2
  case makeSlice t l c =>
    obtain ⟨vl, h1, h2⟩ := onO_ok h
    obtain ⟨vc, h3, h4⟩ := onO_ok h2
    obtain ⟨ti, h5, h6⟩ := onO_ok h4
    obtain ⟨e, h7, h8⟩ := onO_ok h6
    obtain ⟨te, h9, h10⟩ := onO_ok h8
    obtain ⟨z, h11, h12⟩ := onO_ok h10
    obtain ⟨zc, h13, h14⟩ := Out.bind_ok h12
    obtain ⟨⟨v, H'⟩, h15, h16⟩ := Out.bind_ok h14
    obtain ⟨q, w', g', a1, kp, a2, a3, a4, a5⟩ := makeSlice_sound (P := X.P) R (hX.T _ _ h5) (sliceE_some h7) (hX.T _ _ h9) h11 h13 (eval_rep hE hG h1) (eval_rep hE hG h3) h15
    exact hheap a1 a2 a3 (by
      refine ⟨?_, kp⟩
      unfold M.makeSlice at h15
      split at h15
      · split at h15 <;> cases h15
        exact .alloc _ _
      · cases h15) a4 a5 h16
  case makeMap t res =>
    cases res with
    | some _ => cases h
    | none =>
      obtain ⟨ti, h1, h2⟩ := onO_ok h
      obtain ⟨q, h3, h4⟩ := onO_ok h2
      have e := Gh.alloc_ext R 0
      refine hheap (w' := { w with heap := w.heap.push (.map #[] 0) }) (q := .map (some w.heap.size)) ?_ e (fun _ _ h => h) ⟨.alloc H _, rfl, rfl⟩ ?_ ?_ h4
      · simp [Instr.makeMap]
      · exact R.alloc' (x := .map []) ⟨#[], 0, by simp, rfl, fun i p hp => by simp at hp⟩
      · exact .mp (cb := w.heap.size) (base := 0) (top := 0) (by simp [Gh.alloc])
  case lookup t m key cok =>
    obtain ⟨vm, h1, h2⟩ := onO_ok h
    obtain ⟨vk, h3, h4⟩ := onO_ok h2
    obtain ⟨ti, h5, h6⟩ := onO_ok h4
    obtain ⟨q, h7, h8⟩ := onO_ok h6
    obtain ⟨te, h9, h10⟩ := onO_ok h8
    obtain ⟨z, h11, h12⟩ := onO_ok h10
    obtain ⟨v, h13, h14⟩ := Out.bind_ok h12
    exact hvals (lookup_sound R (hX.T _ _ h5) (mapE_some h7) (hX.T _ _ h9) h11 (eval_rep hE hG h1) (eval_rep hE hG h3) h13) h14
  case mapUpdate t m key x =>
    obtain ⟨vm, h1, h2⟩ := onO_ok h
    obtain ⟨vk, h3, h4⟩ := onO_ok h2
    obtain ⟨vx, h5, h6⟩ := onO_ok h4
    obtain ⟨ti, h7, h8⟩ := onO_ok h6
    obtain ⟨q, h9, h10⟩ := onO_ok h8
    obtain ⟨H', h11, h12⟩ := Out.bind_ok h10
    obtain ⟨w', a1, kp, a2⟩ := mapUpdate_sound (P := X.P) R (hX.T _ _ h7) (mapE_some h9) (eval_rep hE hG h1) (eval_rep hE hG h3) (eval_rep hE hG h5) h11
    exact hskip a1 ⟨mapUpdate_step h11, kp⟩ a2 h12
  case slice t x lo hi mx =>
    cases mx with
    | some _ => cases h
    | none =>
      obtain ⟨vlo, h1, h2⟩ := onO_ok h
      obtain ⟨vhi, h3, h4⟩ := onO_ok h2
      obtain ⟨ti, h5, h6⟩ := onO_ok h4
      obtain ⟨vx, h7, h8⟩ := onO_ok h6
      have rl := opt_rep hE hG h1
      have rh := opt_rep hE hG h3
      have rx := eval_rep hE hG h7
      split at h8
      · rename_i hs
        obtain ⟨v, h9, h10⟩ := Out.bind_ok h8
        exact hvals (sliceStr_sound (hX.T _ _ h5) (isStr_true hs) rx rl.1 rl.2 rh.1 rh.2 h9 w) h10
      · split at h8
        · obtain ⟨q, h9, h10⟩ := onO_ok h8
          obtain ⟨te, h11, h12⟩ := onO_ok h10
          obtain ⟨v, h13, h14⟩ := Out.bind_ok h12
          exact hvals (sliceArr_sound R (hX.T _ _ h5) (arrayE_some h9) (hX.T _ _ h11) rx rl.1 rl.2 rh.1 rh.2 h13) h14
        obtain ⟨e, h9, h10⟩ := onO_ok h8
        obtain ⟨te, h11, h12⟩ := onO_ok h10
        obtain ⟨v, h13, h14⟩ := Out.bind_ok h12
        exact hvals (sliceSl_sound (hX.T _ _ h5) (sliceE_some h9) (hX.T _ _ h11) rx rl.1 rl.2 rh.1 rh.2 h13 w) h14
  case fieldAddr s x fd =>
    obtain ⟨ti, h1, h2⟩ := onO_ok h
    obtain ⟨fs, h3, h4⟩ := onO_ok h2
    obtain ⟨fl, h5, h6⟩ := onO_ok h4
    have ht := hX.T _ _ h1
    split at h6
    · cases h6
    · rename_i hne
      cases hx : tmpOf x with
      | none =>
        rw [hx] at h6
        obtain ⟨p, h7, h8⟩ := onO_ok h6
        obtain ⟨v, h9, h10⟩ := Out.bind_ok h8
        obtain ⟨cb, o', hv, hr⟩ := fieldAddr_rep (eval_rep hE hG h7) h9
        exact hvals ⟨_, (by rw [hv]; exact fieldAddr_sound ht (structE_some h3) h5 hne w), hr⟩ h10
      | some i =>
        obtain rfl := tmpOf_some hx
        rw [hx] at h6
        rcases onE_ok h6 with ⟨j, off, he, h7⟩ | ⟨p, he, h7⟩
        · obtain ⟨cb, hl, hv⟩ := tmp_eval hE he
          exact hloc (run_v (by rw [hv]; exact fieldAddr_sound ht (structE_some h3) h5 hne w)) hl h7
        · obtain ⟨v, h9, h10⟩ := Out.bind_ok h7
          obtain ⟨cb, o', hv, hr⟩ := fieldAddr_rep (tmp_eval hE he) h9
          exact hvals ⟨_, (by rw [hv]; exact fieldAddr_sound ht (structE_some h3) h5 hne w), hr⟩ h10
  case field s x fd =>
    obtain ⟨vx, h0, h⟩ := onO_ok h
    obtain ⟨ti, h1, h2⟩ := onO_ok h
    obtain ⟨fs, h3, h4⟩ := onO_ok h2
    obtain ⟨fl, h5, h6⟩ := onO_ok h4
    obtain ⟨v, h7, h8⟩ := Out.bind_ok h6
    exact hvals (field_sound (hX.T _ _ h1) (structE_some h3) h5 (eval_rep hE hG h0) h7 w) h8
  case indexAddr t x ix =>
    obtain ⟨vi, h1, h2⟩ := onO_ok h
    obtain ⟨ti, h3, h4⟩ := onO_ok h2
    have ht := hX.T _ _ h3
    have ri := eval_rep hE hG h1
    split at h4
    · rename_i e hk
      obtain ⟨te, h5, h6⟩ := onO_ok h4
      obtain ⟨vx, h7, h8⟩ := onO_ok h6
      obtain ⟨v, h9, h10⟩ := Out.bind_ok h8
      exact hvals (indexSl_sound ht hk (hX.T _ _ h5) (eval_rep hE hG h7) ri h9 w) h10
    · rename_i len e hk
      obtain ⟨te, h5, h6⟩ := onO_ok h4
      have hte := hX.T _ _ h5
      have harr : ∀ {p q : AV} {v : Value}, Rep g p v → M.indexArr len te.sz p vi = .ok q → ∃ u, (Instr.indexAt t v (a.eval ix)).run X.P w = .ok u w ∧ Rep g q u := fun {p q v} hp hq => by
        unfold M.indexArr at hq
        generalize a.eval ix = qi at ri
        split at hq
        · cases ri
          rename_i kk n
          split at hq
          · rename_i hb
            split at hq
            · cases hq
              cases hp with
              | ref hρ => exact ⟨_, indexArr_sound ht hk hte hb.1 hb.2 w, by rw [Nat.add_assoc]; exact .ref hρ⟩
            · cases hq
              cases hp with
              | iptr cv hi hr =>
                exact ⟨_, indexArr_sound ht hk hte hb.1 hb.2 w, .iptr (fun j => cv (n.toNat * te.sz + j)) (fun j c hj => by rw [List.getElem?_drop] at hj; rw [Nat.add_assoc]; exact hi _ c hj) (fun j c hj => by rw [List.getElem?_drop] at hj; exact hr _ c hj)⟩
            · cases hq
          · cases hq
        · cases hq
      cases hx : tmpOf x with
      | none =>
        rw [hx] at h6
        obtain ⟨p, h7, h8⟩ := onO_ok h6
        obtain ⟨v, h9, h10⟩ := Out.bind_ok h8
        exact hvals (harr (eval_rep hE hG h7) h9) h10
      | some i =>
        obtain rfl := tmpOf_some hx
        rw [hx] at h6
        rcases onE_ok h6 with ⟨j, off, he, h7⟩ | ⟨p, he, h7⟩
        · obtain ⟨off', h9, h10⟩ := Out.bind_ok h7
          obtain ⟨cb, hl, hv⟩ := tmp_eval hE he
          unfold M.indexLoc at h9
          generalize hqi : a.eval ix = qi at ri
          split at h9
          · cases ri
            split at h9
            · rename_i hb
              cases h9
              exact hloc (run_v (by rw [hv]; exact indexArr_sound ht hk hte hb.1 hb.2 w)) hl h10
            · cases h9
          · cases h9
        · obtain ⟨v, h9, h10⟩ := Out.bind_ok h7
          exact hvals (harr (tmp_eval hE he) h9) h10
    · cases h4
  case index t x ix =>
    obtain ⟨vx, h1, h2⟩ := onO_ok h
    obtain ⟨vi, h3, h4⟩ := onO_ok h2
    obtain ⟨ti, h5, h6⟩ := onO_ok h4
    have ht := hX.T _ _ h5
    split at h6
    · rename_i hs
      obtain ⟨v, h7, h8⟩ := Out.bind_ok h6
      exact hvals (indexStr_sound ht (isStr_true hs) (eval_rep hE hG h1) (eval_rep hE hG h3) h7 w) h8
    · obtain ⟨q, h7, h8⟩ := onO_ok h6
      obtain ⟨te, h9, h10⟩ := onO_ok h8
      obtain ⟨v, h11, h12⟩ := Out.bind_ok h10
      exact hvals (indexAgg_sound ht (arrayE_some h7) (hX.T _ _ h9) (eval_rep hE hG h1) (eval_rep hE hG h3) h11 w) h12
  case extract t ix =>
    obtain ⟨vx, h1, h2⟩ := onO_ok h
    obtain ⟨v, h3, h4⟩ := Out.bind_ok h2
    exact hvals (extract_sound (eval_rep hE hG h1) h3 w) h4
  case call c =>
    obtain ⟨as, h1, h2⟩ := onO_ok h
    have ra := evals_rep hE hG h1
    cases hb : Callee.builtinO c.callee with
    | none =>
      rw [hb] at h2
      obtain ⟨fo, h3, h4⟩ := onO_ok h2
      obtain ⟨fv, h5, h6⟩ := onO_ok h4
      have hcal : c.callee = .value fo := by
        cases hc : c.callee <;> rw [hc] at h3 <;> simp [Callee.valueO] at h3; rw [h3]
      unfold callV at h6
      obtain ⟨⟨gf, first, cap⟩, h7, h8⟩ := onO_ok h6
      obtain ⟨⟨v, H'⟩, h9, h10⟩ := Out.bind_ok h8
      have hfv : fv = .fn (.func gf) first cap := by
        unfold fnOf at h7; split at h7 <;> cases h7; rfl
      subst hfv
      have rf := eval_rep hE hG h5
      generalize hq : a.eval fo = qf at rf
      cases rf with
      | fn hl hr hl' hr' =>
        rename_i va vb
        have hargs : Reps g (first ++ as ++ cap) (va ++ c.args.toList.map a.eval ++ vb) := (Reps.append ⟨hl, hr⟩ ra).append ⟨hl', hr'⟩
        have hc := call_sound hΓ h9 R hG hargs
        have hres : (do let d ← resolve a.eval c o.type; invoke d.target d.args : Sem Next).run X.P w = (callFunc gf ⟨va ++ c.args.toList.map a.eval ++ vb⟩).run X.P w := by
          have harr : (⟨va⟩ ++ c.args.map a.eval ++ ⟨vb⟩ : Array Value) = ⟨va ++ c.args.toList.map a.eval ++ vb⟩ := by
            apply Array.ext'; simp
          simp only [resolve, hcal, hq, Deferred.ofValue, Sem.run_bind, Sem.run_pure, Result.andThen_ok, invoke, harr]
        rw [hres]
        exact hc o a next Q fun cv w' ⟨g', e1, e2, e3, e4, e5⟩ => hn _ _ _ _ g' _ _ h10 e1 (fun j y _ hy => by rw [e2]; exact hy) e5 e3 (hE.mono e1 (fun j y hy => by rw [e2]; exact hy)) e4
    | some b =>
      rw [hb] at h2
      have hcal : c.callee = .builtin b := by
        cases hc : c.callee <;> rw [hc] at hb <;> simp [Callee.builtinO] at hb; rw [hb]
      have hres : ∀ cs, (do let d ← resolve a.eval c o.type; invoke d.target d.args : Sem Next).run X.P w = (builtin b c.argTypes o.type cs (c.args.map a.eval)).run X.P w → True := fun _ _ => trivial
      have hres : (do let d ← resolve a.eval c o.type; invoke d.target d.args : Sem Next) = builtin b c.argTypes o.type (c.args.map fun | .const _ => true | _ => false) (c.args.map a.eval) := by
        simp only [resolve, hcal]; rfl
      rw [hres]
      have hargs : c.args.map a.eval = ⟨c.args.toList.map a.eval⟩ := map_toList _ _
      rw [hargs]
      generalize hvs : c.args.toList.map a.eval = vs at ra
      have hlen := ra.1
      unfold builtinEv at h2
      have one : ∀ {x : AV}, oneA as = some x → ∃ v, vs = [v] ∧ Rep g x v := fun {x} hx => by
        unfold oneA at hx; split at hx <;> cases hx
        match vs, hlen with
        | [v], _ => exact ⟨v, rfl, ra.2 0 _ v rfl rfl⟩
      have two : ∀ {p : AV × AV}, twoA as = some p → ∃ v u, vs = [v, u] ∧ Rep g p.1 v ∧ Rep g p.2 u := fun {p} hx => by
        unfold twoA at hx; split at hx <;> cases hx
        match vs, hlen with
        | [v, u], _ => exact ⟨v, u, rfl, ra.2 0 _ v rfl rfl, ra.2 1 _ u rfl rfl⟩
      cases b <;> simp only at h2 <;> try (cases h2; done)
      case len =>
        obtain ⟨t, ht0, h2⟩ := onO_ok h2
        obtain ⟨ti, h3, h4⟩ := onO_ok h2
        obtain ⟨x, h5, h6⟩ := onO_ok h4
        have ht1 : c.argTypes[0]? = some t := by simpa using ht0
        obtain ⟨v, rfl, rv⟩ := one h5
        have ht := hX.T _ _ h3
        split at h6
        · rename_i hk
          obtain ⟨q, h7, h8⟩ := Out.bind_ok h6
          exact hvals (len_sound ht hk ht1 rv h7 o.type w) h8
        · split at h6
          · rename_i hm
            obtain ⟨q, h7, h8⟩ := Out.bind_ok h6
            obtain ⟨d, i, hu, _, hkk, _⟩ := ti_facts ht
            obtain ⟨m, hme⟩ : ∃ m, ti.k.mapE = some m := Option.isSome_iff_exists.1 hm
            rw [mapE_some hme] at hkk
            obtain rfl := tk_map hkk
            refine hvals ?_ h8
            unfold mapLen at h7
            split at h7
            · rename_i bb
              split at h7
              · rename_i kvs hb2
                cases h7
                cases rv with
                | mp hρ =>
                  obtain ⟨cb', base', top', q1, q2, es, clock, q3, q4, q5⟩ := R.blk bb _ hb2
                  rw [hρ] at q1; cases q1
                  refine ⟨.int .i64 kvs.length, ?_, .int _ _⟩
                  rw [← q4]
                  simp [Builtin.len_, ht1, run_und hu, MapKept.run_getObj_map q3, goInt]
              · cases h7
            · cases h7
              cases rv
              exact ⟨_, by simp [Builtin.len_, ht1, run_und hu, goInt], .int _ _⟩
            · cases h7
          · obtain ⟨q, h7, h8⟩ := onO_ok h6
            obtain ⟨d, i, hu, _, hkk, _⟩ := ti_facts ht
            rw [arrayE_some h7] at hkk
            obtain rfl := tk_array hkk
            exact hvals ⟨_, by simp [Builtin.len_, ht1, run_und hu, goInt], .int _ _⟩ h8
      case append =>
        obtain ⟨t, ht0, h2⟩ := onO_ok h2
        obtain ⟨ti, h3, h2⟩ := onO_ok h2
        obtain ⟨u, hu0, h2⟩ := onO_ok h2
        obtain ⟨tj, h4, h2⟩ := onO_ok h2
        obtain ⟨p, h5, h2⟩ := onO_ok h2
        obtain ⟨e, h6, h2⟩ := onO_ok h2
        split at h2
        · rename_i hkj
          obtain ⟨te, h7, h2⟩ := onO_ok h2
          obtain ⟨z, h8, h2⟩ := onO_ok h2
          split at h2
          · rename_i hz
            obtain ⟨⟨v, H'⟩, h9, h10⟩ := Out.bind_ok h2
            obtain ⟨v1, v2, rfl, r1, r2⟩ := two h5
            have ht1 : c.argTypes[0]? = some t := by simpa using ht0
            have hu1 : c.argTypes[1]? = some u := by simpa using hu0
            have hk2 : (∃ e', tj.k = .slice e') ∨ tj.k = .string := by
              simp only [Bool.or_eq_true] at hkj
              rcases hkj with h | h
              · exact .inr (isStr_true h)
              · obtain ⟨e', he'⟩ := Option.isSome_iff_exists.1 h; exact .inl ⟨e', sliceE_some he'⟩
            obtain ⟨q, w', g', a1, kp, a2, a3, a4, a5⟩ := append_sound (P := X.P) R (hX.T _ _ h3) (sliceE_some h6) (hX.T _ _ h4) hk2 (hX.T _ _ h7) h8 hz.1 hz.2 r1 r2 h9 o.type ht1 hu1
            exact hheap a1 a2 a3 ⟨append_step h9, kp⟩ a4 a5 h10
          · cases h2
        · cases h2
      case copy =>
        obtain ⟨t, ht0, h2⟩ := onO_ok h2
        obtain ⟨ti, h3, h2⟩ := onO_ok h2
        obtain ⟨p, h5, h2⟩ := onO_ok h2
        obtain ⟨e, h6, h2⟩ := onO_ok h2
        obtain ⟨te, h7, h2⟩ := onO_ok h2
        split at h2
        · rename_i hz
          obtain ⟨⟨v, H'⟩, h9, h10⟩ := Out.bind_ok h2
          obtain ⟨v1, v2, rfl, r1, r2⟩ := two h5
          have ht1 : c.argTypes[0]? = some t := by simpa using ht0
          obtain ⟨q, w', a1, kp, a2, a3⟩ := copy_sound (P := X.P) R (hX.T _ _ h3) (sliceE_some h6) (hX.T _ _ h7) hz r1 r2 h9 o.type ht1
          exact hheap a1 (.refl g) (fun _ _ h => h) ⟨copy_step h9, kp⟩ a2 a3 h10
        · cases h2
      case max =>
        obtain ⟨p, h5, h2⟩ := onO_ok h2
        obtain ⟨v, h9, h10⟩ := Out.bind_ok h2
        obtain ⟨v1, v2, rfl, r1, r2⟩ := two h5
        have := minmax_sound (P := X.P) (mx := true) r1 r2 h9 c.argTypes o.type w
        exact hvals this h10
      case min =>
        obtain ⟨p, h5, h2⟩ := onO_ok h2
        obtain ⟨v, h9, h10⟩ := Out.bind_ok h2
        obtain ⟨v1, v2, rfl, r1, r2⟩ := two h5
        have := minmax_sound (P := X.P) (mx := false) r1 r2 h9 c.argTypes o.type w
        exact hvals this h10

end
end Go.Proofs.YtnhblghplohonaaGreatDoor.Ab
