/- The abstract machine: an operation does what the model's does. -/
import Derived.Test.YtnhblghplohonaaGreatDoorAbG2
set_option linter.unusedSimpArgs false
set_option linter.unusedVariables false
namespace Go.Proofs.YtnhblghplohonaaGreatDoor.Ab
open Go

/-- How a heap goes on. -/
structure Step (H H' : Heap) : Prop where
  n : H.n ≤ H'.n
  low : H'.low ≤ H.low
  get : ∀ b, b < H'.low → b < H.n → H'.get b = H.get b
theorem Step.refl (H : Heap) : Step H H := ⟨Nat.le_refl _, Nat.le_refl _, fun _ _ _ => rfl⟩
theorem Step.trans {a b c : Heap} (h : Step a b) (h' : Step b c) : Step a c :=
  ⟨Nat.le_trans h.n h'.n, Nat.le_trans h'.low h.low, fun x hx hn => (h'.get x hx (Nat.lt_of_lt_of_le hn h.n)).trans (h.get x (Nat.lt_of_lt_of_le hx h'.low) hn)⟩
theorem Step.alloc (H : Heap) (x : Blk) : Step H (H.alloc x) :=
  ⟨by simp [Heap.alloc], Nat.le_refl _, fun b _ hn => by rw [Heap.get_alloc, if_neg (by omega)]⟩
theorem Step.set (H : Heap) (b : Nat) (x : Blk) : Step H (H.set b x) :=
  ⟨Nat.le_refl _, by simp [Heap.set]; omega, fun c hc hn => by rw [Heap.get_set, if_neg (by simp [Heap.set] at hc; omega)]⟩
theorem Step.kill (H : Heap) (b : Nat) : Step H (H.kill b) :=
  ⟨Nat.le_refl _, by simp [Heap.kill]; omega, fun c hc hn => by rw [Heap.get_kill, if_neg (by simp [Heap.kill] at hc; omega)]⟩

/-- How a heap and its world go on. -/
structure StepW (w w' : World) (H H' : Heap) : Prop where
  s : Step H H'
  k : Keep w w'
theorem StepW.refl {w : World} (H : Heap) : StepW w w H H := ⟨.refl H, .refl w⟩
theorem StepW.trans {u v w : World} {a b c : Heap} (h : StepW u v a b) (h' : StepW v w b c) : StepW u w a c := ⟨h.s.trans h'.s, h.k.trans h'.k⟩

/-- The package's variables. -/
def GlobOk (X : Ctx) (g : Gh) : Prop := ∀ i cs, X.glob i = some cs → Rep g (.iptr cs) (.pointer (some ⟨i, 0, none⟩)) ∧ ∃ c e fz, g.I i = some (.cells c e fz) ∧ c.size = cs.length
theorem GlobOk.mono {X : Ctx} {g g' : Gh} (e : Ext g g') (h : GlobOk X g) : GlobOk X g' := fun i cs hc => ⟨(h i cs hc).1.mono e, let ⟨c, ty, fz, h1, h2⟩ := (h i cs hc).2; ⟨c, ty, fz, e.I _ _ h1, h2⟩⟩

/-- A call of function f ends with such an answer. -/
def Answers (P : Program) (f : Nat) (args : List Value) (w : World) (R : Value → World → Prop) : Prop :=
  ∀ (o : Oper) (a : Act) (next : Act → World → Prop) (Q : Exit → Act → World → Prop), (∀ v w', R v w' → next (a.put o.dst v) w') → o.upon P a next Q ((callFunc f ⟨args⟩).run P w)

structure GoodAt (X : Ctx) (f : Nat) (p : List AV → Heap → Out Ans) : Prop where
  ok : ∀ args H v H', p args H = .ok (v, H') → ∀ g w cargs, Rel g [] H w.heap → GlobOk X g → Reps g args cargs →
    Answers X.P f cargs w fun cv w' => ∃ g', Ext g g' ∧ Rel g' [] H' w'.heap ∧ Rep g' v cv ∧ StepW w w' H H'
def Good (X : Ctx) (Γ : CallsT) : Prop := ∀ f, GoodAt X f (Γ f)

def opSmall (n : Nat) (o : Oper) : Bool := match o.dst with
  | some d => d < n
  | none => true
def smallC (n : Nat) : Code → Bool
  | .region _ ops _ => ops.toList.all (opSmall n)
  | .seq a b => smallC n a && smallC n b
  | .cond _ a b => smallC n a && smallC n b
  | .block _ c => smallC n c
  | .loop c => smallC n c
  | .scope c => smallC n c
  | _ => true

structure Ctx.Ok (X : Ctx) : Prop where
  T : ∀ t ti, X.T t = some ti → tiOf X.P t = some ti
  F : ∀ i fn, X.F i = some fn → X.P.funcs[i]? = some fn
  small : ∀ i fn c, X.F i = some fn → fn.body = some c → smallC fn.ntmps c = true
  prim : ∀ i p, X.prim i = some p → GoodAt X i p
  mixed : X.P.follows .mixedOrders = true

theorem val_find {E : Env} {t : Nat} {a : AV} (h : E.val t = some a) : E.find t = some (.val a) := by
  unfold Env.val at h
  cases hx : E.find t with
  | none => rw [hx] at h; cases h
  | some e =>
    rw [hx] at h
    cases e with
    | val b => cases h; rfl
    | _ => cases h
theorem tmp_eval {g : Gh} {E : Env} {a : Act} (hE : RelE g E a.tmps) {t : Nat} {e : EV} (h : E.find t = some e) : RepE g e (a.eval (.tmp t)) := by
  obtain ⟨v, hv, hr⟩ := hE t e h
  have : a.eval (.tmp t) = v := by simp [Act.eval, hv]
  rw [this]; exact hr
theorem eval_rep {X : Ctx} {g : Gh} {E : Env} {a : Act} (hE : RelE g E a.tmps) (hG : GlobOk X g) {x : Operand} {v : AV} (h : E.eval X x = some v) : Rep g v (a.eval x) := by
  cases x with
  | tmp t => exact tmp_eval hE (val_find h)
  | const c => exact rep_ofV h
  | global i =>
    simp only [Env.eval] at h
    cases hc : X.glob i with
    | none => rw [hc] at h; cases h
    | some cs => rw [hc] at h; cases h; exact (hG i cs hc).1
  | func f => cases h; exact .fn rfl (fun j c v h => by simp at h) rfl (fun j c v h => by simp at h)
theorem evals_rep {X : Ctx} {g : Gh} {E : Env} {a : Act} (hE : RelE g E a.tmps) (hG : GlobOk X g) : ∀ {l : List Operand} {vs : List AV}, E.evals X l = some vs → Reps g vs (l.map a.eval)
  | [], vs, h => by cases h; exact .nil g
  | x :: l, vs, h => by
    simp only [Env.evals] at h
    cases h1 : E.eval X x with
    | none => rw [h1] at h; cases h
    | some b =>
      cases h2 : E.evals X l with
      | none => rw [h1, h2] at h; cases h
      | some bs => rw [h1, h2] at h; cases h; exact .cons (eval_rep hE hG h1) (evals_rep hE hG h2)
theorem parts_rep {X : Ctx} {g : Gh} {E : Env} {a : Act} (hE : RelE g E a.tmps) (hG : GlobOk X g) : ∀ {l : List (Nat × Operand)} {ps : List (Nat × AV)}, partsOf X E l = some ps → PartsRep g ps (l.map fun x => (x.1, a.eval x.2))
  | [], ps, h => by cases h; exact .nil
  | (i, x) :: l, ps, h => by
    simp only [partsOf] at h
    cases h1 : E.eval X x with
    | none => rw [h1] at h; cases h
    | some b =>
      cases h2 : partsOf X E l with
      | none => rw [h1, h2] at h; cases h
      | some bs => rw [h1, h2] at h; cases h; exact .cons (eval_rep hE hG h1) (parts_rep hE hG h2)
theorem opt_rep {X : Ctx} {g : Gh} {E : Env} {a : Act} (hE : RelE g E a.tmps) (hG : GlobOk X g) {o : Option Operand} {r : Option AV} (h : optOf X E o = some r) :
    (∀ b, r = some b → ∃ u, o.map a.eval = some u ∧ Rep g b u) ∧ (r = none → o.map a.eval = none) := by
  cases o with
  | none => cases h; exact ⟨fun b hb => (by cases hb), fun _ => rfl⟩
  | some x =>
    simp only [optOf] at h
    cases h1 : E.eval X x with
    | none => rw [h1] at h; cases h
    | some b => rw [h1] at h; cases h; exact ⟨fun c hc => (by cases hc; exact ⟨_, rfl, eval_rep hE hG h1⟩), fun hn => (by cases hn)⟩

theorem sliceE_some {k : TK} {e : Nat} (h : k.sliceE = some e) : k = .slice e := by cases k <;> simp [TK.sliceE] at h; rw [h]
theorem arrayE_some {k : TK} {q : Nat × Nat} (h : k.arrayE = some q) : k = .array q.1 q.2 := by cases k <;> simp [TK.arrayE] at h; rw [← h]
theorem structE_some {k : TK} {fs : List FI} (h : k.structE = some fs) : k = .struct fs := by cases k <;> simp [TK.structE] at h; rw [h]
theorem mapE_some {k : TK} {q : Nat × Nat} (h : k.mapE = some q) : k = .map q.1 q.2 := by cases k <;> simp [TK.mapE] at h; rw [← h]
theorem isStr_true {k : TK} (h : k.isStr = true) : k = .string := by cases k <;> simp [TK.isStr] at h; rfl
theorem isByte_true {k : TK} (h : k.isByte = true) : k = .int .u8 := by
  cases k <;> simp [TK.isByte] at h
  rename_i k; cases k <;> first | rfl | (simp at h)
theorem tmpOf_some {x : Operand} {t : Nat} (h : tmpOf x = some t) : x = .tmp t := by cases x <;> simp [tmpOf] at h; rw [h]
theorem onE_ok {β : Type} {o : Option EV} {l : Nat → Nat → Out β} {p : AV → Out β} {r : β} (h : onE o l p = .ok r) : (∃ j off, o = some (.loc j off) ∧ l j off = .ok r) ∨ (∃ a, o = some (.val a) ∧ p a = .ok r) := by
  cases o with
  | none => cases h
  | some e =>
    cases e with
    | loc j off => exact .inl ⟨j, off, rfl, h⟩
    | val a => exact .inr ⟨a, rfl, h⟩
    | dead => cases h

/-- The caller's local blocks are not to be touched by the callee. -/
def Gh.down (g : Gh) (h : Array Obj) : Gh :=
  { g with
    l := fun _ => none
    o := fun cb => match g.o cb with | some (.inl b) => some (.inl b) | _ => none
    Fr := fun cb => match g.o cb with | some (.inr _) => h[cb]? | _ => g.Fr cb }
def Gh.up (g g2 : Gh) : Gh :=
  { ρ := g2.ρ
    l := g.l
    o := fun cb => match g.o cb with | some (.inr j) => some (.inr j) | _ => g2.o cb
    I := g2.I
    Fr := fun cb => match g.o cb with | some (.inr _) => none | _ => g2.Fr cb }
theorem Rel.down {g : Gh} {L : Locs} {H : Heap} {h : Array Obj} (R : Rel g L H h) : Rel (g.down h) [] H h := by
  refine ⟨fun cb x hx => ?_, fun cb x hx => ?_, R.dom, fun b x hb => ?_, fun j cs hj => (by cases hj), fun cb x hx => ?_⟩
  · simp only [Gh.down] at hx ⊢
    cases ho : g.o cb with
    | none => rw [ho] at hx; exact ⟨(R.fr cb x hx).1, rfl⟩
    | some y =>
      rw [ho] at hx
      cases y with
      | inl b => have := (R.fr cb x hx).2; rw [ho] at this; cases this
      | inr j => exact ⟨hx, rfl⟩
  · have h1 := R.im cb x hx
    have h2 := (R.fr cb x h1).2
    simp only [Gh.down, h2]; exact h1
  · obtain ⟨cb, base, top, h1, h2, h3⟩ := R.blk b x hb
    refine ⟨cb, base, top, h1, by simp only [Gh.down, h2], ?_⟩
    cases x with
    | cells e cs => obtain ⟨arr, a1, a2, a3, a4⟩ := h3; exact ⟨arr, a1, a2, a3, fun i c hc => let ⟨v, b1, b2, b3⟩ := a4 i c hc; ⟨v, b1, Rep.mono' (g := g) (g' := g.down h) (fun _ _ h => h) (fun _ _ h => h) b2, b3⟩⟩
    | map kvs => obtain ⟨es, cl, a1, a2, a3⟩ := h3; exact ⟨es, cl, a1, a2, fun i p hp => let ⟨e, b1, b2, b3⟩ := a3 i p hp; ⟨e, b1, Rep.mono' (g := g) (g' := g.down h) (fun _ _ h => h) (fun _ _ h => h) b2, Rep.mono' (g := g) (g' := g.down h) (fun _ _ h => h) (fun _ _ h => h) b3⟩⟩
  · simp only [Gh.down] at hx
    cases ho : g.o cb with
    | none => rw [ho] at hx; cases hx
    | some y => exact R.own cb y ho
theorem Rel.up {g g2 : Gh} {L : Locs} {H H' : Heap} {h h' : Array Obj} (R : Rel g L H h) (e : Ext (g.down h) g2) (R2 : Rel g2 [] H' h') : Rel (g.up g2) L H' h' ∧ Ext g (g.up g2) := by
  have hinr : ∀ cb j, g.o cb = some (.inr j) → ∃ y, h[cb]? = some y ∧ g2.Fr cb = some y ∧ h'[cb]? = some y ∧ g2.o cb = none := by
    intro cb j ho
    have hlt := R.own cb _ ho
    have h1 : (g.down h).Fr cb = some h[cb] := by simp only [Gh.down, ho]; exact Array.getElem?_eq_getElem hlt
    have h2 := e.Fr cb _ h1
    exact ⟨h[cb], Array.getElem?_eq_getElem hlt, h2, (R2.fr cb _ h2).1, (R2.fr cb _ h2).2⟩
  have hrep : ∀ {a : AV} {v : Value}, Rep g2 a v → Rep (g.up g2) a v := fun hr => Rep.mono' (g := g2) (g' := g.up g2) (fun _ _ h => h) (fun _ _ h => h) hr
  have hrep0 : ∀ {a : AV} {v : Value}, Rep g a v → Rep (g.up g2) a v := fun hr => Rep.mono' (g := g) (g' := g.up g2) (fun b x hb => e.ρ b x hb) (fun cb x hx => e.I cb x hx) hr
  constructor
  · refine ⟨fun cb x hx => ?_, fun cb x hx => ?_, R2.dom, fun b x hb => ?_, fun j cs hj => ?_, fun cb x hx => ?_⟩
    · simp only [Gh.up] at hx ⊢
      cases ho : g.o cb with
      | none => rw [ho] at hx; exact R2.fr cb x hx
      | some y =>
        rw [ho] at hx
        cases y with
        | inl b => exact R2.fr cb x hx
        | inr j => cases hx
    · simp only [Gh.up] at hx ⊢
      have h1 := R2.im cb x hx
      cases ho : g.o cb with
      | none => exact h1
      | some y =>
        cases y with
        | inl b => exact h1
        | inr j =>
          obtain ⟨y, a1, a2, _, _⟩ := hinr cb j ho
          have h3 : (g.down h).Fr cb ≠ none := by simp only [Gh.down, ho, a1]; simp
          have h4 := e.In cb h3
          rw [h4] at hx
          have := (R.fr cb x (R.im cb x hx)).2
          rw [ho] at this; cases this
    · obtain ⟨cb, base, top, h1, h2, h3⟩ := R2.blk b x hb
      refine ⟨cb, base, top, h1, ?_, ?_⟩
      · simp only [Gh.up]
        cases ho : g.o cb with
        | none => exact h2
        | some y =>
          cases y with
          | inl b => exact h2
          | inr j => obtain ⟨_, _, _, _, a⟩ := hinr cb j ho; rw [a] at h2; cases h2
      · cases x with
        | cells e cs => obtain ⟨arr, a1, a2, a3, a4⟩ := h3; exact ⟨arr, a1, a2, a3, fun i c hc => let ⟨v, b1, b2, b3⟩ := a4 i c hc; ⟨v, b1, hrep b2, b3⟩⟩
        | map kvs => obtain ⟨es, cl, a1, a2, a3⟩ := h3; exact ⟨es, cl, a1, a2, fun i p hp => let ⟨e, b1, b2, b3⟩ := a3 i p hp; ⟨e, b1, hrep b2, hrep b3⟩⟩
    · obtain ⟨cb, arr, h1, h2, h3, h4, h5⟩ := R.loc j cs hj
      obtain ⟨y, a1, _, a3, _⟩ := hinr cb j h2
      exact ⟨cb, arr, h1, by simp only [Gh.up, h2], h3.of_heap (a3.trans a1.symm), ⟨h4.1, fun i c v hi hv => hrep0 (h4.2 i c v hi hv)⟩, h5⟩
    · simp only [Gh.up] at hx
      cases ho : g.o cb with
      | none => rw [ho] at hx; exact R2.own cb x hx
      | some y =>
        cases y with
        | inl b => rw [ho] at hx; exact R2.own cb x hx
        | inr j => obtain ⟨_, _, _, a, _⟩ := hinr cb j ho; exact some_lt a
  · refine ⟨fun b x hb => e.ρ b x hb, fun cb x hx => e.I cb x hx, fun cb x hx => ?_, fun cb hne => ?_⟩
    · have ho := (R.fr cb x hx).2
      have h1 : (g.down h).Fr cb = some x := by simp only [Gh.down, ho]; exact hx
      simp only [Gh.up, ho]; exact e.Fr cb x h1
    · cases hx : g.Fr cb with
      | none => exact absurd hx hne
      | some x =>
        have ho := (R.fr cb x hx).2
        exact e.In cb (by simp only [Gh.down, ho, hx]; simp)

/-- A call out of a frame with local blocks. -/
theorem call_sound {X : Ctx} {Γ : CallsT} (hΓ : Good X Γ) {f : Nat} {args : List AV} {H H' : Heap} {v : AV} (h : Γ f args H = .ok (v, H')) {g : Gh} {L : Locs} {w : World} (R : Rel g L H w.heap) (hG : GlobOk X g) {cargs : List Value}
    (ha : Reps g args cargs) : Answers X.P f cargs w fun cv w' => ∃ g', Ext g g' ∧ g'.l = g.l ∧ Rel g' L H' w'.heap ∧ Rep g' v cv ∧ StepW w w' H H' := by
  have h1 := (hΓ f).ok args H v H' h
  have hm : ∀ {a : AV} {u : Value}, Rep g a u → Rep (g.down w.heap) a u := fun hr => Rep.mono' (g := g) (g' := g.down w.heap) (fun _ _ h => h) (fun _ _ h => h) hr
  have h2 := h1 (g.down w.heap) w cargs R.down (fun i cs hc => ⟨hm (hG i cs hc).1, (hG i cs hc).2⟩) ⟨ha.1, fun j c u hj hu => hm (ha.2 j c u hj hu)⟩
  intro o a next Q hn
  refine h2 o a next Q fun cv w' ⟨g2, e, R2, hr, hst⟩ => ?_
  obtain ⟨R3, e3⟩ := R.up e R2
  exact hn cv w' ⟨g.up g2, e3, rfl, R3, Rep.mono' (g := g2) (g' := g.up g2) (fun _ _ h => h) (fun _ _ h => h) hr, hst⟩

theorem dropLoc_find (d : Nat) (E : Env) (i : Nat) : (E.dropLoc d).find i = (E.find i).map (EV.drop d) := by
  induction E with
  | nil => rfl
  | cons p E ih =>
    obtain ⟨j, e⟩ := p
    simp only [Env.dropLoc, find_cons]
    split
    · rfl
    · exact ih
theorem RelE.dropLoc {g : Gh} {d hs : Nat} {t : Array Value} {E : Env} (hE : RelE g E t) : RelE (g.allocLoc d hs) (E.dropLoc d) t := by
  intro i e he
  rw [dropLoc_find] at he
  cases hx : E.find i with
  | none => rw [hx] at he; cases he
  | some x =>
    rw [hx] at he
    cases he
    obtain ⟨v, hv, hr⟩ := hE i x hx
    refine ⟨v, hv, ?_⟩
    cases x with
    | val a => exact Rep.mono (Gh.allocLoc_ext g d hs) hr
    | dead => exact trivial
    | loc j o =>
      simp only [EV.drop]
      split
      · exact trivial
      · rename_i hj
        have hjd : j ≠ d := by simpa using hj
        obtain ⟨cb, h1, h2⟩ := hr
        exact ⟨cb, by simp only [Gh.allocLoc]; rw [if_neg hjd]; exact h1, h2⟩

end Go.Proofs.YtnhblghplohonaaGreatDoor.Ab
