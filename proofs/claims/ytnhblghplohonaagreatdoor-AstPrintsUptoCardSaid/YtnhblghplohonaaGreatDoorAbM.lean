/- The abstract machine: code, loops, calls: if it answers, so does the model. -/
import Derived.Test.YtnhblghplohonaaGreatDoorAbL2
set_option linter.unusedSimpArgs false
set_option linter.unusedVariables false
namespace Go.Proofs.YtnhblghplohonaaGreatDoor.Ab
open Go

section
variable {β : Type} {X : Ctx} {f : Nat} {Γ : CallsT}

def Ex.ex : Ex → Exit
  | .normal => .normal
  | .exit id => .exit id
  | .ret => .ret

/-- What is asked of what follows a piece of code. -/
def After (g : Gh) (w : World) (H : Heap) (a : Act) (k : Ex → Env → Locs → Heap → Out β) (r : β) (Q : Exit → Act → World → Prop) : Prop :=
  ∀ e E' L' H' g' (a' : Act) w', k e E' L' H' = .ok r → Ext g g' → StepW w w' H H' → Rel g' L' H' w'.heap → RelE g' E' a'.tmps → a'.tmps.size = a.tmps.size → a'.defers = a.defers → Q e.ex a' w'
theorem After.go {g g' : Gh} {w w' : World} {H H' : Heap} {a a' : Act} {k : Ex → Env → Locs → Heap → Out β} {r : β} {Q : Exit → Act → World → Prop} (h : After g w H a k r Q) (he : Ext g g') (hs : StepW w w' H H') (hz : a'.tmps.size = a.tmps.size) (hd : a'.defers = a.defers) :
    After g' w' H' a' k r Q := fun e E L H2 g2 a2 w2 hk he2 hs2 R hE hz2 hd2 => h e E L H2 g2 a2 w2 hk (he.trans he2) (hs.trans hs2) R hE (hz2.trans hz) (hd2.trans hd)

theorem find_append (A B : Env) (i : Nat) : Env.find (A ++ B) i = (A.find i).or (B.find i) := by
  induction A with
  | nil => simp [Env.find]
  | cons p A ih =>
    obtain ⟨j, e⟩ := p
    rw [List.cons_append, find_cons, find_cons]
    split
    · simp
    · exact ih
theorem find_locEntries {E : Env} {i : Nat} {e : EV} (h : (locEntries E).find i = some e) : ∃ j o, e = .loc j o := by
  induction E with
  | nil => cases h
  | cons p E ih =>
    obtain ⟨q, x⟩ := p
    cases x with
    | loc j o =>
      simp only [locEntries, find_cons] at h
      split at h
      · cases h; exact ⟨j, o, rfl⟩
      · exact ih h
    | val a => exact ih h
    | dead => exact ih h
theorem sameLocs_find {E : Env} : ∀ {K : Env} {i : Nat} {e : EV}, sameLocs E K = true → K.find i = some e → E.find i = some e
  | [], i, e, _, h => by cases h
  | (q, .val a) :: K, i, e, hs, h => by cases hs
  | (q, .dead) :: K, i, e, hs, h => by cases hs
  | (q, .loc j o) :: K, i, e, hs, h => by
    simp only [sameLocs, Bool.and_eq_true] at hs
    rw [find_cons] at h
    split at h
    · rename_i hq
      subst hq
      cases h
      obtain ⟨h1, _⟩ := hs
      split at h1
      · rename_i j' o' hf
        simp only [Bool.and_eq_true, beq_iff_eq] at h1
        obtain ⟨rfl, rfl⟩ := h1
        exact hf
      · cases h1
    · exact sameLocs_find hs.2 h
theorem pack_get {E : Env} : ∀ {ls : List Nat} {vs : List AV} {j i : Nat}, pack E ls = some vs → ls[j]? = some i → ∃ a, vs[j]? = some a ∧ E.find i = some (.val a)
  | [], vs, j, i, h, hj => by simp at hj
  | l :: ls, vs, j, i, h, hj => by
    simp only [pack] at h
    cases h1 : E.val l with
    | none => rw [h1] at h; cases h
    | some b =>
      cases h2 : pack E ls with
      | none => rw [h1, h2] at h; cases h
      | some bs =>
        rw [h1, h2] at h; cases h
        cases j with
        | zero => simp at hj; subst hj; exact ⟨b, rfl, val_find h1⟩
        | succ j => simp at hj; obtain ⟨a, q1, q2⟩ := pack_get h2 hj; exact ⟨a, by simpa using q1, q2⟩
theorem find_unpack {vs : List AV} : ∀ {ls : List Nat} {n i : Nat} {e : EV}, (unpackFrom vs n ls).find i = some e → ∃ j, ls[j]? = some i ∧ e = .val (vs.getD (n + j) undefA)
  | [], n, i, e, h => by cases h
  | l :: ls, n, i, e, h => by
    simp only [unpackFrom, find_cons] at h
    split at h
    · rename_i hl; subst hl; cases h; exact ⟨0, rfl, rfl⟩
    · obtain ⟨j, h1, h2⟩ := find_unpack h
      exact ⟨j + 1, by simpa using h1, by rw [h2]; congr 2; omega⟩
theorem relE_head {g : Gh} {E K : Env} {t : Array Value} {ls : List Nat} {vs : List AV} (hE : RelE g E t) (hp : pack E ls = some vs) (hs : sameLocs E K = true) : RelE g (unpackFrom vs 0 ls ++ K) t := by
  intro i e he
  rw [find_append] at he
  cases h1 : (unpackFrom vs 0 ls).find i with
  | some x =>
    rw [h1] at he
    simp at he
    subst he
    obtain ⟨j, h2, rfl⟩ := find_unpack h1
    obtain ⟨a, h3, h4⟩ := pack_get hp h2
    have : vs.getD (0 + j) undefA = a := by rw [Nat.zero_add, List.getD_eq_getElem?_getD, h3]; rfl
    rw [this]
    exact hE i _ h4
  | none =>
    rw [h1] at he
    simp at he
    exact hE i _ (sameLocs_find hs he)

theorem ev_sound (hX : X.Ok) (hΓ : Good X Γ) {m n : Nat} {r : β} : ∀ {c : Code} {E : Env} {L : Locs} {H : Heap} {k : Ex → Env → Locs → Heap → Out β} (_ : ev X f Γ (loopN m) c E L H k = .ok r)
    {g : Gh} {a : Act} {w : World} (_ : Rel g L H w.heap) (_ : RelE g E a.tmps) (_ : GlobOk X g) (_ : smallC n c = true) (_ : n ≤ a.tmps.size) {Q : Exit → Act → World → Prop} (_ : After g w H a k r Q), c.wp X.P Q a w := by
  intro c
  induction c with
  | skip =>
    intro E L H k h g a w R hE hG hs hn Q hk
    exact wp_skip (hk .normal E L H g a w h (.refl g) (.refl H) R hE rfl rfl)
  | exit id =>
    intro E L H k h g a w R hE hG hs hn Q hk
    exact wp_exit (hk (.exit id) E L H g a w h (.refl g) (.refl H) R hE rfl rfl)
  | ret =>
    intro E L H k h g a w R hE hG hs hn Q hk
    exact wp_ret (hk .ret E L H g a w h (.refl g) (.refl H) R hE rfl rfl)
  | region id ops draw =>
    intro E L H k h g a w R hE hG hs hn Q hk
    simp only [ev] at h
    split at h
    · rename_i hd
      subst hd
      split at h
      · rename_i hok
        exact wp_region_any hX.mixed (draw_sound (w := { w with drawn := w.drawn + 1 }) hX hΓ hok h R hE hG hs hn fun E' L' H' g' a' w' k' e' s' R' hE' hz hdf => hk .normal E' L' H' g' a' w' k' e' ⟨s'.s, s'.k.os, s'.k.out⟩ R' hE' hz hdf)
      · cases h
    · rename_i hd
      have : draw = false := by simpa using hd
      subst this
      exact wp_region_list (evOps_sound hX hΓ h R hE (.nil _) hG hs hn fun E' L' H' g' a' w' k' e' s' R' hE' hz hdf => hk .normal E' L' H' g' a' w' k' e' s' R' hE' hz hdf)
  | seq x y ihx ihy =>
    intro E L H k h g a w R hE hG hs hn Q hk
    simp only [smallC, Bool.and_eq_true] at hs
    simp only [ev] at h
    split at h
    · refine wp_seq (ihx h R hE hG hs.1 hn fun e E' L' H' g' a' w' k' e' s' R' hE' hz hdf => ?_)
      have hk' := hk.go e' s' hz hdf
      cases e with
      | normal => exact ihy k' R' hE' (hG.mono e') hs.2 (by rw [hz]; exact hn) hk'
      | exit id => exact hk' _ E' L' H' g' a' w' k' (.refl g') (.refl H') R' hE' rfl rfl
      | ret => exact hk' _ E' L' H' g' a' w' k' (.refl g') (.refl H') R' hE' rfl rfl
    · unfold jn at h
      refine wp_seq (ihx h R hE hG hs.1 hn fun e E' L' H' g' a' w' k' e' s' R' hE' hz hdf => ?_)
      have hk' := hk.go e' s' hz hdf
      cases e with
      | normal =>
        simp only at k'
        split at k'
        · rename_i hsl
          split at k'
          · rename_i vs hp
            exact ihy k' R' (relE_head hE' hp hsl) (hG.mono e') hs.2 (by rw [hz]; exact hn) hk'
          · cases k'
        · cases k'
      | exit id => exact hk' _ E' L' H' g' a' w' k' (.refl g') (.refl H') R' hE' rfl rfl
      | ret => exact hk' _ E' L' H' g' a' w' k' (.refl g') (.refl H') R' hE' rfl rfl
  | cond c x y ihx ihy =>
    intro E L H k h g a w R hE hG hs hn Q hk
    simp only [smallC, Bool.and_eq_true] at hs
    simp only [ev] at h
    obtain ⟨v, hv, h⟩ := onO_ok h
    have rv := eval_rep hE hG hv
    unfold condEv at h
    generalize hq : a.eval c = q at rv
    split at h
    · cases rv; exact wp_cond (t := true) hq (ihx h R hE hG hs.1 hn hk)
    · cases rv; exact wp_cond (t := false) hq (ihy h R hE hG hs.2 hn hk)
    · cases h
  | block id c ih =>
    intro E L H k h g a w R hE hG hs hn Q hk
    simp only [ev] at h
    refine wp_block (ih h R hE hG hs hn fun e E' L' H' g' a' w' k' e' s' R' hE' hz hdf => ?_)
    have hk' := hk.go e' s' hz hdf
    cases e with
    | normal => exact hk' .normal E' L' H' g' a' w' k' (.refl g') (.refl H') R' hE' rfl rfl
    | exit id' =>
      simp only at k'
      show Exit.inBlock id Q (.exit id') a' w'
      simp only [Exit.inBlock]
      split at k'
      · rename_i hid; rw [if_pos hid]; exact hk' .normal E' L' H' g' a' w' k' (.refl g') (.refl H') R' hE' rfl rfl
      · rename_i hid; rw [if_neg hid]; exact hk' (.exit id') E' L' H' g' a' w' k' (.refl g') (.refl H') R' hE' rfl rfl
    | ret => exact hk' .ret E' L' H' g' a' w' k' (.refl g') (.refl H') R' hE' rfl rfl
  | loop c ih =>
    intro E L H k h g a w R hE hG hs hn Q hk
    simp only [ev] at h
    cases hsl : sameLocs E (locEntries E) with
    | false => rw [hsl] at h; cases h
    | true =>
      cases hp : pack E (X.live f (loopKey c)) with
      | none => rw [hsl, hp] at h; cases h
      | some vs =>
        rw [hsl, hp] at h
        simp only at h
        refine wp_loop_rounds m ?_
        -- every number of rounds
        have key : ∀ (q : Nat) (s : LS) (g : Gh) (a : Act) (w : World), loopN q (fun s again => ev X f Γ (loopN m) c (unpackFrom s.1 0 (X.live f (loopKey c)) ++ locEntries E) s.2.1 s.2.2 fun e E' L' H' => match e with
            | .normal => if sameLocs E' (locEntries E) then (match pack E' (X.live f (loopKey c)) with | some vs' => again (vs', L', H') | none => .no) else .no
            | e => k e E' L' H') s = .ok r → Rel g s.2.1 s.2.2 w.heap → RelE g (unpackFrom s.1 0 (X.live f (loopKey c)) ++ locEntries E) a.tmps → GlobOk X g → n ≤ a.tmps.size → After g w s.2.2 a k r Q → Code.rounds X.P c Q q a w := by
          intro q
          induction q with
          | zero => intro s g a w h; cases h
          | succ q ihq =>
            intro s g a w h R hE hG hn hk
            rw [rounds_succ]
            refine ih h R hE hG hs hn fun e E' L' H' g' a' w' k' e' s' R' hE' hz hdf => ?_
            have hk' := hk.go e' s' hz hdf
            cases e with
            | normal =>
              simp only at k'
              split at k'
              · rename_i hsl'
                cases hp' : pack E' (X.live f (loopKey c)) with
                | none => rw [hp'] at k'; cases k'
                | some vs' =>
                  rw [hp'] at k'
                  exact ihq (vs', L', H') g' a' w' k' R' (relE_head hE' hp' hsl') (hG.mono e') (by rw [hz]; exact hn) hk'
              · cases k'
            | exit id => exact hk' (.exit id) E' L' H' g' a' w' k' (.refl g') (.refl H') R' hE' rfl rfl
            | ret => exact hk' .ret E' L' H' g' a' w' k' (.refl g') (.refl H') R' hE' rfl rfl
        exact key m (vs, L, H) g a w h R (relE_head hE hp hsl) hG hn hk
  | _ => intro E L H k h; simp only [ev] at h; cases h
end

/- ### Functions -/
theorem resOf_sound {X : Ctx} (hX : X.Ok) {g : Gh} {E : Env} {L : Locs} {H : Heap} {w : World} {a : Act} (R : Rel g L H w.heap) (hE : RelE g E a.tmps) : ∀ {l : List ResultVar} {vs : List AV}, resOf X E L H l = .ok vs →
    ∃ cvs : List Value, (l.mapM (m := Sem) fun
      | .tmp t => pure (a.tmps.getD t undef)
      | .cell b t => do loadVar t (← asAddr (a.tmps.getD b undef))).run X.P w = .ok cvs w ∧ Reps g vs cvs
  | [], vs, h => by simp only [resOf] at h; cases h; exact ⟨[], rfl, .nil g⟩
  | .tmp t :: l, vs, h => by
    simp only [resOf] at h
    obtain ⟨v, h1, h2⟩ := onO_ok h
    obtain ⟨vs', h3, h4⟩ := Out.bind_ok h2
    cases h4
    obtain ⟨cvs, a1, a2⟩ := resOf_sound hX R hE h3
    refine ⟨a.tmps.getD t undef :: cvs, ?_, .cons (tmp_eval hE (val_find h1)) a2⟩
    simp only [List.mapM_cons, Sem.run_bind, Sem.run_pure, Result.andThen_ok, a1]
  | .cell b t :: l, vs, h => by
    simp only [resOf] at h
    obtain ⟨ti, h1, h2⟩ := onO_ok h
    obtain ⟨v, h3, h4⟩ := Out.bind_ok h2
    obtain ⟨vs', h5, h6⟩ := Out.bind_ok h4
    cases h6
    have ht := hX.T _ _ h1
    obtain ⟨cvs, a1, a2⟩ := resOf_sound hX R hE h5
    have hload : ∃ u, (do loadVar t (← asAddr (a.tmps.getD b undef)) : Sem Value).run X.P w = .ok u w ∧ Rep g v u := by
      rcases onE_ok h3 with ⟨j, off, he, h7⟩ | ⟨p, he, h7⟩
      · obtain ⟨cs, hc, h8⟩ := onO_ok h7
        obtain ⟨cb, hl, hv⟩ := tmp_eval hE he
        obtain ⟨cb', arr, q1, q2, ⟨ty, fz, q3, _⟩, q4, q5⟩ := R.loc j cs hc
        rw [q1] at hl; cases hl
        have hca : CellsAt g w.heap cb 0 cs := ⟨arr, ty, fz, q3, fun n c hc => by
          obtain ⟨u, a1, a2⟩ := q4.get hc
          exact ⟨u, by simpa using a1, a2, q5 u (List.mem_of_getElem? a1)⟩⟩
        obtain ⟨q, a1, a2⟩ := load_cells ht hca h8
        have hv' : a.tmps.getD b undef = .pointer (some ⟨cb, off, none⟩) := hv
        refine ⟨q, ?_, a2⟩
        rw [hv']
        simp only [asAddr, Sem.run_bind, Sem.run_pure, Result.andThen_ok]
        simpa using a1
      · obtain ⟨u, a1, a2⟩ := load_sound R ht (tmp_eval hE he) h7
        refine ⟨u, ?_, a2⟩
        have hq : a.eval (.tmp b) = a.tmps.getD b undef := rfl
        rw [hq] at a1
        have hr : Rep g p (a.tmps.getD b undef) := tmp_eval hE he
        generalize a.tmps.getD b undef = q at a1 hr
        cases hr <;> first
          | (unfold M.load at h7; cases h7; done)
          | (simp only [asAddr, Sem.run_bind, Sem.run_pure, Result.andThen_ok]; simpa [Instr.loadAt, Instr.sureAddr] using a1)
    obtain ⟨u, b1, b2⟩ := hload
    refine ⟨u :: cvs, ?_, .cons b2 a2⟩
    simp only [List.mapM_cons, Sem.run_bind]
    simp only [Sem.run_bind] at b1
    rw [b1]
    simp only [Result.andThen_ok, a1, Sem.run_pure]

theorem results_sound {X : Ctx} (hX : X.Ok) {g : Gh} {E : Env} {L : Locs} {H : Heap} {w : World} {a : Act} (R : Rel g L H w.heap) (hE : RelE g E a.tmps) {fn : Func} {vs : List AV} (h : resOf X E L H fn.results.toList = .ok vs) :
    ∃ v, (results fn a.tmps).run X.P w = .ok v w ∧ Rep g (oneOf vs) v := by
  obtain ⟨cvs, h1, h2⟩ := resOf_sound hX R hE h
  refine ⟨if h : cvs.toArray.size = 1 then cvs.toArray[0] else .tuple cvs.toArray, ?_, ?_⟩
  · unfold results
    simp only [Sem.run_bind]
    rw [Array.mapM_eq_mapM_toList]
    simp only [Sem.run_map]
    erw [h1]
    simp only [Result.andThen_ok, Sem.run_pure]
  · have hl := h2.1
    match vs, cvs, hl with
    | [], [], _ => exact .tup rfl h2.2
    | [x], [v], _ => exact h2.2 0 x v rfl rfl
    | x :: y :: l, v :: u :: m, _ =>
      rw [dif_neg (by simp)]
      exact .tup h2.1 h2.2

/- ### What remains -/
theorem cleanL_all {n : Nat} : ∀ {l : List AV}, cleanL n l = true ↔ ∀ x ∈ l, clean n x = true
  | [] => by simp [cleanL]
  | x :: l => by simp [cleanL, cleanL_all]
theorem clean_cells {n : Nat} {x : AV} : clean n x = true ↔ ∀ c ∈ x.cells, clean n c = true := by
  cases x <;> first
    | (simp only [AV.cells, clean, cleanL_all]; done)
    | (simp [AV.cells])
theorem clean_of_rep {g : Gh} {n : Nat} (hd : ∀ b x, g.ρ b = some x → b < n) {a : AV} {v : Value} (h : Rep g a v) : clean n a = true := by
  induction h with
  | int => rfl
  | bool => rfl
  | str => rfl
  | v => rfl
  | ref h => simp only [clean, decide_eq_true_eq]; exact hd _ _ h
  | sl h => simp only [clean, decide_eq_true_eq]; exact hd _ _ h
  | mp h => simp only [clean, decide_eq_true_eq]; exact hd _ _ h
  | isl cv hl h0 hi hr ih =>
    simp only [clean, cleanL_all]
    intro x hx
    obtain ⟨i, hi', rfl⟩ := List.getElem_of_mem hx
    refine clean_cells.2 fun c hc => ?_
    obtain ⟨j, hj, rfl⟩ := List.getElem_of_mem hc
    exact ih i j _ _ (List.getElem?_eq_getElem hi') (List.getElem?_eq_getElem hj)
  | iptr cv hi hr ih =>
    simp only [clean, cleanL_all]
    intro x hx
    obtain ⟨i, hi', rfl⟩ := List.getElem_of_mem hx
    exact ih i _ (List.getElem?_eq_getElem hi')
  | agg h1 hl hr ih =>
    simp only [clean, cleanL_all]
    intro x hx
    obtain ⟨i, hi', rfl⟩ := List.getElem_of_mem hx
    exact ih i _ _ (List.getElem?_eq_getElem hi') (List.getElem?_eq_getElem (by rw [← hl]; exact hi'))
  | tup hl hr ih =>
    simp only [clean, cleanL_all]
    intro x hx
    obtain ⟨i, hi', rfl⟩ := List.getElem_of_mem hx
    exact ih i _ _ (List.getElem?_eq_getElem hi') (List.getElem?_eq_getElem (by rw [← hl]; exact hi'))
  | fn hl hr hl' hr' ih ih' =>
    simp only [clean, cleanL_all, Bool.and_eq_true]
    constructor
    · intro x hx
      obtain ⟨i, hi', rfl⟩ := List.getElem_of_mem hx
      exact ih i _ _ (List.getElem?_eq_getElem hi') (List.getElem?_eq_getElem (by rw [← hl]; exact hi'))
    · intro x hx
      obtain ⟨i, hi', rfl⟩ := List.getElem_of_mem hx
      exact ih' i _ _ (List.getElem?_eq_getElem hi') (List.getElem?_eq_getElem (by rw [← hl']; exact hi'))
  | ifc h ih => exact ih

def Gh.cut (g : Gh) (n : Nat) : Gh := { g with ρ := fun b => if b < n then g.ρ b else none, o := fun cb => match g.o cb with | some (.inl b) => if b < n then some (.inl b) else none | _ => none }
theorem Rep.cut {g : Gh} {n : Nat} {a : AV} {v : Value} (h : Rep g a v) : clean n a = true → Rep (g.cut n) a v := by
  induction h with
  | int k n => exact fun _ => .int k n
  | bool b => exact fun _ => .bool b
  | str l => exact fun _ => .str l
  | v h => exact fun _ => .v h
  | ref h => intro hc; simp only [clean, decide_eq_true_eq] at hc; exact .ref (by simp only [Gh.cut]; rw [if_pos hc]; exact h)
  | sl h hl ha => intro hc; simp only [clean, decide_eq_true_eq] at hc; exact .sl (by simp only [Gh.cut]; rw [if_pos hc]; exact h) hl ha
  | mp h => intro hc; simp only [clean, decide_eq_true_eq] at hc; exact .mp (by simp only [Gh.cut]; rw [if_pos hc]; exact h)
  | isl cv hl h0 hi hr ih =>
    intro hc
    simp only [clean, cleanL_all] at hc
    exact .isl cv hl h0 hi fun i j x c hx hj => ih i j x c hx hj (clean_cells.1 (hc x (List.mem_of_getElem? hx)) c (List.mem_of_getElem? hj))
  | iptr cv hi hr ih =>
    intro hc
    simp only [clean, cleanL_all] at hc
    exact .iptr cv hi fun j c hj => ih j c hj (hc c (List.mem_of_getElem? hj))
  | agg h1 hl hr ih =>
    intro hc
    simp only [clean, cleanL_all] at hc
    exact .agg h1 hl fun j c v hj hv => ih j c v hj hv (hc c (List.mem_of_getElem? hj))
  | tup hl hr ih =>
    intro hc
    simp only [clean, cleanL_all] at hc
    exact .tup hl fun j c v hj hv => ih j c v hj hv (hc c (List.mem_of_getElem? hj))
  | fn hl hr hl' hr' ih ih' =>
    intro hc
    simp only [clean, cleanL_all, Bool.and_eq_true] at hc
    exact .fn hl (fun j c v hj hv => ih j c v hj hv (hc.1 c (List.mem_of_getElem? hj))) hl' (fun j c v hj hv => ih' j c v hj hv (hc.2 c (List.mem_of_getElem? hj)))
  | ifc h ih => exact fun hc => .ifc (ih hc)

theorem cells_clean {g g0 : Gh} {n : Nat} (hd : ∀ b x, g0.ρ b = some x → b < n) {x : Blk} {h h' : Array Obj} {cb base top cb' base' top' : Nat} (h0 : BlkOk g0 h cb base top x) (h1 : BlkOk g h' cb' base' top' x) : BlkOk (g.cut n) h' cb' base' top' x := by
  cases x with
  | cells e cs =>
    obtain ⟨arr, a1, a2, a3, a4⟩ := h1
    obtain ⟨_, _, _, _, b4⟩ := h0
    exact ⟨arr, a1, a2, a3, fun i c hc => by
      obtain ⟨v, c1, c2, c3⟩ := a4 i c hc
      obtain ⟨_, _, d2, _⟩ := b4 i c hc
      exact ⟨v, c1, c2.cut (clean_of_rep hd d2), c3⟩⟩
  | map kvs =>
    obtain ⟨es, cl, a1, a2, a3⟩ := h1
    obtain ⟨_, _, _, _, b3⟩ := h0
    exact ⟨es, cl, a1, a2, fun i p hp => by
      obtain ⟨e, c1, c2, c3⟩ := a3 i p hp
      obtain ⟨_, _, d2, d3⟩ := b3 i p hp
      exact ⟨e, c1, c2.cut (clean_of_rep hd d2), c3.cut (clean_of_rep hd d3)⟩⟩

theorem gc_sound {g g' : Gh} {L' : Locs} {H H' : Heap} {h h' : Array Obj} {v : AV} {cv : Value} (R : Rel g [] H h) (R' : Rel g' L' H' h') (he : Ext g g') (hs : Step { H with low := H.n } H') (hr : Rep g' v cv) :
    ∃ g2, Ext g g2 ∧ Rel g2 [] (gc v H H').2 h' ∧ Rep g2 (gc v H H').1 cv ∧ Step H (gc v H H').2 := by
  unfold gc
  split
  · rename_i hc
    obtain ⟨h1, h2⟩ := hc
    refine ⟨g'.cut H.n, ⟨fun b x hb => ?_, he.I, he.Fr, he.In⟩, ⟨fun cb x hx => ?_, R'.im, fun b x hb => ?_, fun b x hb => ?_, fun j cs hj => (by cases hj), fun cb x hx => ?_⟩, hr.cut h2, .refl H⟩
    · have := R.dom b x hb
      simp only [Gh.cut]; rw [if_pos this]; exact he.ρ b x hb
    · obtain ⟨a, b⟩ := R'.fr cb x hx
      exact ⟨a, by simp only [Gh.cut, b]⟩
    · simp only [Gh.cut] at hb
      split at hb
      · assumption
      · cases hb
    · obtain ⟨cb0, base0, top0, a1, _, a3⟩ := R.blk b x hb
      have hlt := R.dom b _ a1
      have hsame : H'.get b = H.get b := hs.get b (by omega) hlt
      obtain ⟨cb, base, top, b1, b2, b3⟩ := R'.blk b x (hsame.trans hb)
      exact ⟨cb, base, top, by simp only [Gh.cut]; rw [if_pos hlt]; exact b1, by simp only [Gh.cut, b2]; rw [if_pos hlt], cells_clean (fun b x hb => R.dom b x hb) a3 b3⟩
    · simp only [Gh.cut] at hx
      cases ho : g'.o cb with
      | none => rw [ho] at hx; cases hx
      | some y => exact R'.own cb y ho
  · refine ⟨g', he, ⟨R'.fr, R'.im, R'.dom, R'.blk, fun j cs hj => (by cases hj), R'.own⟩, hr, ⟨hs.n, Nat.min_le_left _ _, fun b hb hn => ?_⟩⟩
    have hb' : b < min H.low H'.low := hb
    exact hs.get b (by omega) hn

theorem optAll_get {f : AV → Option AV} : ∀ {l r : List AV}, optAll f l = some r → l.length = r.length ∧ ∀ (j : Nat) (c' : AV), r[j]? = some c' → ∃ c, l[j]? = some c ∧ f c = some c'
  | [], r, h => by cases h; exact ⟨rfl, fun j c' hc => by simp at hc⟩
  | x :: l, r, h => by
    simp only [optAll] at h
    cases h1 : f x with
    | none => rw [h1] at h; cases h
    | some a =>
      cases h2 : optAll f l with
      | none => rw [h1, h2] at h; cases h
      | some q =>
        rw [h1, h2] at h
        cases h
        obtain ⟨e, k⟩ := optAll_get h2
        refine ⟨by simp [e], fun j c' hc => ?_⟩
        cases j with
        | zero => simp only [List.getElem?_cons_zero, Option.some.injEq] at hc; subst hc; exact ⟨x, rfl, h1⟩
        | succ j => exact k j c' (by simpa using hc)

/-- The blocks from 'n' on are no more written. -/
def Gh.ice (g : Gh) (n : Nat) (h : Array Obj) : Gh :=
  { g.cut n with
    I := fun cb => match g.o cb with | some (.inl b) => if n ≤ b then h[cb]? else g.I cb | _ => g.I cb
    Fr := fun cb => match g.o cb with | some (.inl b) => if n ≤ b then h[cb]? else g.Fr cb | _ => g.Fr cb }
theorem ice_I {g : Gh} {L : Locs} {H : Heap} {h : Array Obj} (R : Rel g L H h) (n : Nat) : (∀ cb x, g.I cb = some x → (g.ice n h).I cb = some x) ∧ (∀ cb x, g.Fr cb = some x → (g.ice n h).Fr cb = some x ∧ (g.ice n h).I cb = g.I cb) := by
  have key : ∀ cb x, g.Fr cb = some x → (g.ice n h).Fr cb = some x ∧ (g.ice n h).I cb = g.I cb := fun cb x hx => by
    have ho := (R.fr cb x hx).2
    constructor
    · simp only [Gh.ice, ho]; exact hx
    · simp only [Gh.ice, ho]
  exact ⟨fun cb x hx => by rw [(key cb x (R.im cb x hx)).2]; exact hx, key⟩
theorem fz_sound {g : Gh} {L : Locs} {H : Heap} {h : Array Obj} (R : Rel g L H h) (n : Nat) : ∀ (k : Nat) {v v' : AV} {cv : Value}, Rep g v cv → fz H.cells n k v = some v' → Rep (g.ice n h) v' cv
  | 0, v, v', cv, _, hf => by cases hf
  | k + 1, v, v', cv, hr, hf => by
    have ih := fun {v v' : AV} {cv : Value} => fz_sound R n k (v := v) (v' := v') (cv := cv)
    have hcut : ∀ {v : AV} {cv : Value}, Rep (g.cut n) v cv → Rep (g.ice n h) v cv := fun hr => Rep.mono' (g := g.cut n) (g' := g.ice n h) (fun _ _ h => h) (ice_I R n).1 hr
    have blk : ∀ b cs, H.cells b = some cs → n ≤ b → ∀ cb base top, g.ρ b = some (cb, base, top) → ∃ arr : Array Value, ∀ (i : Nat) (c : AV), cs[i]? = some c → ∃ u, cellI (g.ice n h).I cb (base + i) = some u ∧ Rep g c u ∧ u.oneCell' = true := by
      intro b cs hcs hb cb base top hρ
      unfold Heap.cells at hcs
      split at hcs
      · rename_i e cs' hg
        cases hcs
        obtain ⟨cb', base', top', e1, e2, arr, ⟨e3, f3, hrow, _⟩, _, _, e6⟩ := R.blk b _ hg
        rw [hρ] at e1
        cases e1
        refine ⟨arr, fun i c hc => ?_⟩
        obtain ⟨u, u1, u2, u3⟩ := e6 i c hc
        refine ⟨u, ?_, u2, u3⟩
        simp only [cellI, Gh.ice, e2, if_pos hb, hrow]
        exact u1
      · cases hcs
    unfold fz at hf
    split at hf
    · rename_i hc
      cases hf
      exact hcut (hr.cut hc)
    · rename_i hnc
      clear hnc
      cases hr with
      | ref hρ =>
        rename_i b off cb base top
        simp only at hf
        split at hf
        · rename_i cs hcs
          split at hf
          · rename_i hb
            cases hq : optAll (fz H.cells n k) (cs.drop off) with
            | none => rw [hq] at hf; cases hf
            | some l =>
              rw [hq] at hf
              cases hf
              obtain ⟨_, hl⟩ := optAll_get hq
              obtain ⟨arr, ha⟩ := blk b cs hcs hb _ _ _ hρ
              have hx : ∀ j c', l[j]? = some c' → ∃ u, cellI (g.ice n h).I cb (base + off + j) = some u ∧ Rep (g.ice n h) c' u ∧ u.oneCell' = true := fun j c' hj => by
                obtain ⟨c, c1, c2⟩ := hl j c' hj
                rw [List.getElem?_drop] at c1
                obtain ⟨u, u1, u2, u3⟩ := ha _ c c1
                exact ⟨u, by rw [Nat.add_assoc]; exact u1, ih u2 c2, u3⟩
              refine .iptr (fun j => (cellI (g.ice n h).I cb (base + off + j)).getD undef) (fun j c hj => ?_) (fun j c hj => ?_)
              · obtain ⟨u, u1, _, u3⟩ := hx j c hj
                rw [u1]; exact ⟨rfl, u3⟩
              · obtain ⟨u, u1, u2, _⟩ := hx j c hj
                rw [u1]; exact u2
          · cases hf
        · cases hf
      | sl hρ hl ha =>
        rename_i b off len sz cb base top cap A
        simp only at hf
        split at hf
        · rename_i cs hcs
          split at hf
          · rename_i hb
            obtain ⟨hb, hlen⟩ := hb
            cases hq : optAll (fz H.cells n k) ((cs.drop off).take (len * sz)) with
            | none => rw [hq] at hf; cases hf
            | some l =>
              rw [hq] at hf
              cases hf
              obtain ⟨hll, hget⟩ := optAll_get hq
              obtain ⟨arr, harr⟩ := blk b cs hcs hb _ _ _ hρ
              have hx : ∀ j c', l[j]? = some c' → ∃ u, cellI (g.ice n h).I cb (base + off + j) = some u ∧ Rep (g.ice n h) c' u ∧ u.oneCell' = true := fun j c' hj => by
                obtain ⟨c, c1, c2⟩ := hget j c' hj
                rw [List.getElem?_take] at c1
                split at c1
                · rw [List.getElem?_drop] at c1
                  obtain ⟨u, u1, u2, u3⟩ := harr _ c c1
                  exact ⟨u, by rw [Nat.add_assoc]; exact u1, ih u2 c2, u3⟩
                · cases c1
              have hone : ∀ c ∈ l, c.cells = [c] := fun c hc => by
                obtain ⟨j, hj, rfl⟩ := List.getElem_of_mem hc
                obtain ⟨u, _, u2, u3⟩ := hx j _ (List.getElem?_eq_getElem hj)
                exact (u2.cells_self u3).1
              have hlen2 : l.length = len * sz := by rw [← hll, List.length_take, List.length_drop]; omega
              have hcl : (chunks (sz != 1) sz len l).length = len := chunks_length len _ sz l
              have hcr : ∀ (i j : Nat) (x c : AV), (chunks (sz != 1) sz len l)[i]? = some x → x.cells[j]? = some c → l[i * sz + j]? = some c := fun i j x c h1 h2 => chunks_rep len (sz != 1) sz l i j x c hone hlen2 (fun he => by simpa using he) h1 h2
              have hres : Rep (g.ice n h) (.isl sz (chunks (sz != 1) sz len l)) (.slice (some A) (chunks (sz != 1) sz len l).length cap) := by
                refine .isl (cb := cb) (o := base + off) (fun i j => (cellI (g.ice n h).I cb (base + off + (i * sz + j))).getD undef) (by rw [hcl]; exact hl) (fun hn => ?_) (fun i j x c h1 h2 => ?_) (fun i j x c h1 h2 => ?_)
                · have : 0 < len := by
                    have := List.length_pos_iff.2 hn
                    rw [hcl] at this
                    exact this
                  rw [(ha (by omega)).1]
                · obtain ⟨u, u1, _, u3⟩ := hx _ c (hcr i j x c h1 h2)
                  rw [Nat.add_assoc (base + off), u1]; exact ⟨rfl, u3⟩
                · obtain ⟨u, u1, u2, _⟩ := hx _ c (hcr i j x c h1 h2)
                  rw [u1]; exact u2
              rw [hcl] at hres
              exact hres
          · cases hf
        · cases hf
      | agg h1 hl hr =>
        simp only at hf
        rename_i cs vs
        cases hq : optAll (fz H.cells n k) cs with
        | none => rw [hq] at hf; cases hf
        | some l =>
          rw [hq] at hf
          cases hf
          obtain ⟨hll, hget⟩ := optAll_get hq
          exact .agg h1 (by rw [← hll]; exact hl) fun j c v hj hv => by
            obtain ⟨c0, c1, c2⟩ := hget j c hj
            exact ih (hr j c0 v c1 hv) c2
      | tup hl hr =>
        simp only at hf
        rename_i cs vs
        cases hq : optAll (fz H.cells n k) cs with
        | none => rw [hq] at hf; cases hf
        | some l =>
          rw [hq] at hf
          cases hf
          obtain ⟨hll, hget⟩ := optAll_get hq
          exact .tup (by rw [← hll]; exact hl) fun j c v hj hv => by
            obtain ⟨c0, c1, c2⟩ := hget j c hj
            exact ih (hr j c0 v c1 hv) c2
      | fn hl hr hl' hr' =>
        simp only at hf
        rename_i f a b va vb
        cases hq : optAll (fz H.cells n k) a with
        | none => rw [hq] at hf; cases hf
        | some l =>
          cases hq' : optAll (fz H.cells n k) b with
          | none => rw [hq, hq'] at hf; cases hf
          | some l' =>
            rw [hq, hq'] at hf
            cases hf
            obtain ⟨hll, hget⟩ := optAll_get hq
            obtain ⟨hll', hget'⟩ := optAll_get hq'
            exact .fn (by rw [← hll]; exact hl) (fun j c v hj hv => by
              obtain ⟨c0, c1, c2⟩ := hget j c hj
              exact ih (hr j c0 v c1 hv) c2) (by rw [← hll']; exact hl') (fun j c v hj hv => by
              obtain ⟨c0, c1, c2⟩ := hget' j c hj
              exact ih (hr' j c0 v c1 hv) c2)
      | ifc h1 =>
        simp only at hf
        rename_i t x v
        cases hq : fz H.cells n k x with
        | none => rw [hq] at hf; cases hf
        | some y => rw [hq] at hf; cases hf; exact .ifc (ih h1 hq)
      | _ => cases hf

theorem gcz_sound {g g' : Gh} {L' : Locs} {H H' : Heap} {h h' : Array Obj} {v : AV} {cv : Value} (R : Rel g [] H h) (R' : Rel g' L' H' h') (he : Ext g g') (hs : Step { H with low := H.n } H') (hr : Rep g' v cv) :
    ∃ g2, Ext g g2 ∧ Rel g2 [] (gcz v H H').2 h' ∧ Rep g2 (gcz v H H').1 cv ∧ Step H (gcz v H H').2 := by
  unfold gcz
  split
  · rename_i v' hv
    split at hv
    · rename_i h1
      obtain ⟨i1, i2⟩ := ice_I R' H.n
      refine ⟨g'.ice H.n h', ⟨fun b x hb => ?_, fun cb x hx => i1 cb x (he.I cb x hx), fun cb x hx => (i2 cb x (he.Fr cb x hx)).1, fun cb hne => ?_⟩, ⟨fun cb x hx => ?_, fun cb x hx => ?_, fun b x hb => ?_, fun b x hb => ?_, fun j cs hj => (by cases hj), fun cb x hx => ?_⟩, fz_sound R' H.n 32 hr hv, .refl H⟩
      · have := R.dom b x hb
        simp only [Gh.ice, Gh.cut]; rw [if_pos this]; exact he.ρ b x hb
      · cases hx : g.Fr cb with
        | none => exact absurd hx hne
        | some x => rw [(i2 cb x (he.Fr cb x hx)).2]; exact he.In cb hne
      · simp only [Gh.ice, Gh.cut] at hx ⊢
        cases ho : g'.o cb with
        | none => rw [ho] at hx; exact ⟨(R'.fr cb x hx).1, rfl⟩
        | some y =>
          rw [ho] at hx
          cases y with
          | inr j => have := (R'.fr cb x hx).2; rw [ho] at this; cases this
          | inl b =>
            simp only at hx ⊢
            by_cases hb : H.n ≤ b
            · rw [if_pos hb] at hx; exact ⟨hx, by rw [if_neg (by omega)]⟩
            · rw [if_neg hb] at hx; have := (R'.fr cb x hx).2; rw [ho] at this; cases this
      · simp only [Gh.ice] at hx ⊢
        cases ho : g'.o cb with
        | none => rw [ho] at hx; exact R'.im cb x hx
        | some y =>
          rw [ho] at hx
          cases y with
          | inr j => exact R'.im cb x hx
          | inl b =>
            simp only at hx ⊢
            by_cases hb : H.n ≤ b
            · rw [if_pos hb] at hx ⊢; exact hx
            · rw [if_neg hb] at hx ⊢; exact R'.im cb x hx
      · simp only [Gh.ice, Gh.cut] at hb
        split at hb
        · assumption
        · cases hb
      · obtain ⟨cb0, base0, top0, a1, _, a3⟩ := R.blk b x hb
        have hlt := R.dom b _ a1
        have hsame : H'.get b = H.get b := hs.get b (by omega) hlt
        obtain ⟨cb, base, top, b1, b2, b3⟩ := R'.blk b x (hsame.trans hb)
        refine ⟨cb, base, top, by simp only [Gh.ice, Gh.cut]; rw [if_pos hlt]; exact b1, by simp only [Gh.ice, Gh.cut, b2]; rw [if_pos hlt], ?_⟩
        have := cells_clean (fun b x hb => R.dom b x hb) a3 b3
        have hm : ∀ {v : AV} {cv : Value}, Rep (g'.cut H.n) v cv → Rep (g'.ice H.n h') v cv := fun hr => Rep.mono' (g := g'.cut H.n) (g' := g'.ice H.n h') (fun _ _ h => h) i1 hr
        cases x with
        | cells e cs => obtain ⟨arr, c1, c2, c3, c4⟩ := this; exact ⟨arr, c1, c2, c3, fun i c hc => let ⟨v, d1, d2, d3⟩ := c4 i c hc; ⟨v, d1, hm d2, d3⟩⟩
        | map kvs => obtain ⟨es, cl, c1, c2, c3⟩ := this; exact ⟨es, cl, c1, c2, fun i p hp => let ⟨e, d1, d2, d3⟩ := c3 i p hp; ⟨e, d1, hm d2, hm d3⟩⟩
      · simp only [Gh.ice, Gh.cut] at hx
        cases ho : g'.o cb with
        | none => rw [ho] at hx; cases hx
        | some y => exact R'.own cb y ho
    · cases hv
  · exact gc_sound R R' he hs hr
theorem gcf_sound (z : Bool) {g g' : Gh} {L' : Locs} {H H' : Heap} {h h' : Array Obj} {v : AV} {cv : Value} (R : Rel g [] H h) (R' : Rel g' L' H' h') (he : Ext g g') (hs : Step { H with low := H.n } H') (hr : Rep g' v cv) :
    ∃ g2, Ext g g2 ∧ Rel g2 [] (gcf z v H H').2 h' ∧ Rep g2 (gcf z v H H').1 cv ∧ Step H (gcf z v H H').2 := by
  cases z
  · exact gc_sound R R' he hs hr
  · exact gcz_sound R R' he hs hr

theorem envOf_find : ∀ {l : List AV} {n i : Nat} {e : EV}, (envOf n l).find i = some e → ∃ j a, i = n + j ∧ l[j]? = some a ∧ e = .val a
  | [], n, i, e, h => by cases h
  | a :: l, n, i, e, h => by
    simp only [envOf, find_cons] at h
    split at h
    · rename_i hn; subst hn; cases h; exact ⟨0, a, rfl, rfl, rfl⟩
    · obtain ⟨j, b, rfl, h2, h3⟩ := envOf_find h
      exact ⟨j + 1, b, by omega, by simpa using h2, h3⟩

theorem runF_good {X : Ctx} (hX : X.Ok) {Γ : CallsT} (hΓ : Good X Γ) (m : Nat) : Good X (runF X (loopN m) Γ) := by
  refine fun f => ⟨fun args H v H' h g w cargs R hG ha => ?_⟩
  unfold runF at h
  cases hp : X.prim f with
  | some p => rw [hp] at h; exact (hX.prim f p hp).ok args H v H' h g w cargs R hG ha
  | none =>
    rw [hp] at h
    simp only at h
    cases hF : X.F f with
    | none => rw [hF] at h; cases h
    | some fn =>
      rw [hF] at h
      simp only at h
      cases hb : fn.body with
      | none => rw [hb] at h; cases h
      | some c =>
        rw [hb] at h
        simp only at h
        split at h
        · cases h
        · rename_i hname
          have hf := hX.F f fn hF
          have hsm := hX.small f fn c hF hb
          intro o a next Q hn
          have hrun : (callFunc f ⟨cargs⟩).run X.P w = .ok (.enter f ⟨cargs⟩) w := by
            simp only [callFunc, Sem.run_bind, run_program, Result.andThen_ok, hf, hname, hb, Option.isNone_some, Bool.false_eq_true, if_false, Sem.run_pure]
          rw [hrun]
          show Calls X.P f ⟨cargs⟩ w _
          refine calls_of_wp hf hb ?_
          have R0 : Rel g [] { H with low := H.n } w.heap := ⟨R.fr, R.im, R.dom, R.blk, R.loc, R.own⟩
          refine ev_sound hX hΓ h R0 (a := { tmps := ⟨cargs⟩ ++ Array.replicate (fn.ntmps - cargs.length) undef, defers := [] }) ?_ hG hsm (by simp; omega) ?_
          · intro i e he
            obtain ⟨j, b, rfl, h2, rfl⟩ := envOf_find he
            obtain ⟨u, hu, hr⟩ := ha.get h2
            refine ⟨u, ?_, hr⟩
            rw [Nat.zero_add, Array.getElem?_append_left (by simpa using (List.getElem?_eq_some_iff.1 hu).1)]
            simpa using hu
          · intro e E' L' H2 g' a' w' hk he hst R' hE' hz hdf
            have fin : (resOf X E' L' H2 fn.results.toList).bind (fun vs => Out.ok (gcf (X.fz f) (oneOf vs) H H2)) = .ok (v, H') → a'.defers = [] ∧ ∃ u, (results fn a'.tmps).run X.P w' = .ok u w' ∧ next (a.put o.dst u) w' := fun hk => by
              obtain ⟨vs, h1, h2⟩ := Out.bind_ok hk
              obtain ⟨u, h3, h4⟩ := results_sound hX R' hE' h1
              obtain ⟨g2, e1, e2, e3, e4⟩ := gcf_sound (X.fz f) R R' he hst.s h4
              have hgc : gcf (X.fz f) (oneOf vs) H H2 = (v, H') := by injection h2
              rw [hgc] at e2 e3 e4
              exact ⟨hdf, u, h3, hn u w' ⟨g2, e1, e2, e3, e4, hst.k⟩⟩
            cases e with
            | normal => exact fin hk
            | exit id => cases hk
            | ret => exact fin hk

/-- Calls so many deep do what the model's do. -/
theorem callN_good {X : Ctx} (hX : X.Ok) : ∀ n, Good X (callN X n)
  | 0 => fun f => ⟨fun args H v H' h => by cases h⟩
  | n + 1 => runF_good hX (callN_good hX n) n

end Go.Proofs.YtnhblghplohonaaGreatDoor.Ab
