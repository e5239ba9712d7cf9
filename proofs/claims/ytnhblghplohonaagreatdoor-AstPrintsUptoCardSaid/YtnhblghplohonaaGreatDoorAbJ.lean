/- The abstract machine: code, loops, calls: if it answers, so does the model. -/
import Derived.Test.YtnhblghplohonaaGreatDoorAbI
set_option linter.unusedSimpArgs false
set_option linter.unusedVariables false
namespace Go.Proofs.YtnhblghplohonaaGreatDoor.Ab
open Go

section
variable {β : Type} {X : Ctx} {f : Nat} {Γ : CallsT}

theorem wanted_yes {ops : Array Oper} {E : Env} {g : Gh} {t : Array Value} (hE : RelE g E t) {j : Nat} {b : Bool} (h : ((ops.toList[j]?).bind (·.dst)).bind E.find = some (.val (.bool b))) : yielded ops t j = some b := by
  cases ho : ops.toList[j]? with
  | none => rw [ho] at h; cases h
  | some o =>
    rw [ho] at h
    have ho' : ops[j]? = some o := by simpa using ho
    cases hd : o.dst with
    | none => simp only [Option.bind_some, hd, Option.bind_none] at h; cases h
    | some d =>
      simp only [Option.bind_some, hd] at h
      obtain ⟨v, hv, hr⟩ := hE d _ h
      cases hr
      simp [yielded, ho', hd, hv]
theorem wanted_no {ops : Array Oper} {E : Env} {g : Gh} {t : Array Value} (hE : RelE g E t) {j : Nat} (h : ((ops.toList[j]?).bind (·.dst)).bind E.find = some (.val (.tup []))) : yielded ops t j = none := by
  cases ho : ops.toList[j]? with
  | none => rw [ho] at h; cases h
  | some o =>
    rw [ho] at h
    have ho' : ops[j]? = some o := by simpa using ho
    cases hd : o.dst with
    | none => simp only [Option.bind_some, hd, Option.bind_none] at h; cases h
    | some d =>
      simp only [Option.bind_some, hd] at h
      obtain ⟨v, hv, hr⟩ := hE d _ h
      cases hr
      simp [yielded, ho', hd, hv]

/-- What an operation does hangs not on what follows. -/
def Det (E : Env) (L : Locs) (F : (β : Type) → (EV → Env → Locs → Heap → Out β) → Out β) : Prop := (∃ e H, ∀ (β : Type) k, F β k = k e E L H) ∨ ∀ (β : Type) k, F β k = .no
section
variable {E : Env} {L : Locs}
theorem Det.no : Det E L (fun _ _ => .no) := .inr fun _ _ => rfl
theorem Det.k {e : EV} {H : Heap} : Det E L (fun _ k => k e E L H) := .inl ⟨e, H, fun _ _ => rfl⟩
theorem Det.onO {α : Type} {o : Option α} {F : α → (β : Type) → (EV → Env → Locs → Heap → Out β) → Out β} (h : ∀ a, o = some a → Det E L (F a)) : Det E L (fun β k => onO o fun a => F a β k) := by
  cases o with
  | none => exact .no
  | some a => exact h a rfl
theorem Det.bind {α : Type} {x : Out α} {F : α → (β : Type) → (EV → Env → Locs → Heap → Out β) → Out β} (h : ∀ a, Det E L (F a)) : Det E L (fun β k => x.bind fun a => F a β k) := by
  cases x with
  | no => exact .no
  | ok a => exact h a
theorem Det.ite {c : Prop} [Decidable c] {F G : (β : Type) → (EV → Env → Locs → Heap → Out β) → Out β} (h : c → Det E L F) (h' : ¬ c → Det E L G) : Det E L (fun β k => if c then F β k else G β k) := by
  by_cases hc : c
  · simp only [if_pos hc]; exact h hc
  · simp only [if_neg hc]; exact h' hc
theorem Det.onE {o : Option EV} {F : Nat → Nat → (β : Type) → (EV → Env → Locs → Heap → Out β) → Out β} {G : AV → (β : Type) → (EV → Env → Locs → Heap → Out β) → Out β} (h : ∀ i j, o = some (.loc i j) → Det E L (F i j)) (h' : ∀ a, Det E L (G a)) :
    Det E L (fun β k => onE o (fun i j => F i j β k) (fun a => G a β k)) := by
  cases o with
  | none => exact .no
  | some e => cases e with
    | loc i j => exact h i j rfl
    | val a => exact h' a
    | dead => exact .no
end
theorem noLoc_no {E : Env} {x : Operand} {i a b : Nat} (h : noLoc E x = true) (ht : tmpOf x = some i) (he : E.find i = some (.loc a b)) : False := by
  unfold noLoc at h
  rw [ht] at h
  simp only [he] at h
  cases h
theorem opEv_det {o : Oper} {E : Env} {L : Locs} {H : Heap} (hq : quietOp X f E o = true) : Det E L (fun β k => opEv X f Γ o E L H k) := by
  unfold opEv
  unfold quietOp at hq
  have hnew : ∀ (t : TypeId) (z : AV), (match o.dst with | some d => !(X.loc f d) | none => true) = true → Det E L (fun β k => newEv X f t z o.dst E L H k) := by
    intro t z h
    unfold newEv
    refine .bind fun cs => .onO fun d hd => .ite (fun hl => ?_) fun _ => .k
    rw [hd] at h
    simp [hl] at h
  have hmv : ∀ (x : Operand), noLoc E x = true → Det E L (fun β k => match x with | .tmp t => Ab.onO (E.find t) fun e => k e E L H | x => Ab.onO (E.eval X x) fun v => k (.val v) E L H) := by
    intro x h
    cases x with
    | tmp t => exact .onO fun e he => .k
    | _ => exact .onO fun e he => .k
  cases ho : o.op with
  | move x => rw [ho] at hq; exact hmv x hq
  | assign x => rw [ho] at hq; exact hmv x hq
  | alloc t => rw [ho] at hq; exact .onO fun ti _ => .onO fun z _ => hnew t z hq
  | box t x => rw [ho] at hq; exact .onO fun z _ => hnew t z hq
  | build t parts =>
    refine .onO fun ti _ => .onO fun _ _ => .onO fun _ _ => .bind fun _ => ?_
    cases ti.k <;> repeat' first | exact Det.no | exact Det.k | refine Det.onO fun _ _ => ?_ | refine Det.bind fun _ => ?_
  | load t a =>
    refine .onO fun ti _ => ?_
    cases tmpOf a <;> simp only <;> repeat' first | exact Det.no | exact Det.k | refine Det.onO fun _ _ => ?_ | refine Det.bind fun _ => ?_ | refine Det.onE (fun _ _ _ => ?_) (fun _ => ?_)
  | store t a x =>
    rw [ho] at hq
    refine .onO fun ti _ => .onO fun _ _ => ?_
    cases hta : tmpOf a with
    | none => simp only; repeat' first | exact Det.no | exact Det.k | refine Det.onO fun _ _ => ?_ | refine Det.bind fun _ => ?_
    | some i => simp only; exact .onE (fun _ _ he => (noLoc_no hq hta he).elim) fun _ => .bind fun _ => .k
  | nilCheck x =>
    rw [ho] at hq
    simp only
    cases hta : tmpOf x with
    | none => simp only; repeat' first | exact Det.no | exact Det.k | refine Det.onO fun _ _ => ?_ | refine Det.bind fun _ => ?_
    | some i => simp only; exact .onE (fun _ _ he => (noLoc_no hq hta he).elim) fun _ => .bind fun _ => .k
  | makeMap t res =>
    cases res <;> simp only <;> repeat' first | exact Det.no | exact Det.k | refine Det.onO fun _ _ => ?_
  | slice t x lo hi mx =>
    cases mx <;> simp only <;> repeat' first | exact Det.no | exact Det.k | refine Det.onO fun _ _ => ?_ | refine Det.bind fun _ => ?_ | refine Det.ite (fun _ => ?_) (fun _ => ?_)
  | fieldAddr s x fd =>
    rw [ho] at hq
    refine .onO fun ti _ => .onO fun _ _ => .onO fun fl _ => .ite (fun _ => .no) fun _ => ?_
    cases hta : tmpOf x with
    | none => simp only; repeat' first | exact Det.no | exact Det.k | refine Det.onO fun _ _ => ?_ | refine Det.bind fun _ => ?_
    | some i => simp only; exact .onE (fun _ _ he => (noLoc_no hq hta he).elim) fun _ => .bind fun _ => .k
  | indexAddr t x ix =>
    rw [ho] at hq
    refine .onO fun i _ => .onO fun ti _ => ?_
    cases ti.k with
    | array len e =>
      refine .onO fun te _ => ?_
      cases hta : tmpOf x with
      | none => simp only; repeat' first | exact Det.no | exact Det.k | refine Det.onO fun _ _ => ?_ | refine Det.bind fun _ => ?_
      | some i => simp only; exact .onE (fun _ _ he => (noLoc_no hq hta he).elim) fun _ => .bind fun _ => .k
    | slice e => simp only; repeat' first | exact Det.no | exact Det.k | refine Det.onO fun _ _ => ?_ | refine Det.bind fun _ => ?_
    | _ => exact .no
  | call c =>
    refine .onO fun as _ => ?_
    cases Callee.builtinO c.callee with
    | some b =>
      cases b <;> simp only [builtinEv] <;> repeat' first | exact Det.no | exact Det.k | refine Det.onO fun _ _ => ?_ | refine Det.bind fun _ => ?_ | refine Det.ite (fun _ => ?_) (fun _ => ?_)
    | none =>
      simp only [callV]
      repeat' first | exact Det.no | exact Det.k | refine Det.onO fun _ _ => ?_ | refine Det.bind fun _ => ?_
  | _ =>
    simp only
    repeat' first | exact Det.no | exact Det.k | refine Det.onO fun _ _ => ?_ | refine Det.bind fun _ => ?_ | refine Det.ite (fun _ => ?_) (fun _ => ?_)
/-- A guarded operation, carried out: as if what follows stood behind it. -/
theorem opEv_quiet {o : Oper} {E : Env} {L : Locs} {H H' : Heap} {v : AV} (hq : quietOp X f E o = true) (h : opEv X f Γ o E L H (fun e _ _ H' => valK e H') = .ok (v, H')) (k : EV → Env → Locs → Heap → Out β) : opEv X f Γ o E L H k = k (.val v) E L H' := by
  rcases opEv_det (Γ := Γ) (L := L) (H := H) hq with ⟨e, H2, hk⟩ | hk
  · have h1 := hk _ (fun e _ _ H' => valK e H')
    simp only at h1
    rw [h1] at h
    cases e with
    | val a => cases h; exact hk _ k
    | _ => cases h
  · have h1 := hk _ (fun e _ _ H' => valK e H')
    simp only at h1
    rw [h1] at h
    cases h

/-- What an operation does, wherever it stands: a rule for its run. -/
theorem opEv_do (hX : X.Ok) (hΓ : Good X Γ) {o : Oper} {E E' : Env} {L L' : Locs} {H H' : Heap} {e : EV} (h : ∀ (β : Type) (k : EV → Env → Locs → Heap → Out β), opEv X f Γ o E L H k = k e E' L' H') {g : Gh} {a : Act} {w : World}
    (R : Rel g L H w.heap) (hE : RelE g E a.tmps) (hG : GlobOk X g) {next : Act → World → Prop} {Q : Exit → Act → World → Prop}
    (hn : ∀ g' v w', Ext g g' → (∀ j y, (newLoc X f o = true → o.dst ≠ some j) → g.l j = some y → g'.l j = some y) → StepW w w' H H' → Rel g' L' H' w'.heap → RelE g' E' a.tmps → RepE g' e v → next (a.put o.dst v) w') : o.upon X.P a next Q ((execOp a.eval o).run X.P w) := by
  have h1 := h _ (fun e E L H => Out.ok (e, E, L, H))
  refine opEv_sound hX hΓ h1 R hE hG fun e2 E2 L2 H2 g' v w' hk he hl hs hR hE' hr => ?_
  cases hk
  exact hn g' v w' he hl hs hR hE' hr

/-- The addresses under a guard. -/
def RelG (G : List GE) (t : Array Value) : Prop := ∀ q ∈ G, t[q.s]? = some (.bool q.w) → ∃ cb, t[q.b]? = some (.pointer (some ⟨cb, q.o, none⟩)) ∧ t[q.i]? = some (.pointer (some ⟨cb, q.off, none⟩))
theorem RelG.nil (t : Array Value) : RelG [] t := fun q hq => by cases hq
theorem put_get {a : Act} {dst : Option Nat} {v : Value} {i : Nat} (h : dst ≠ some i) : (a.put dst v).tmps[i]? = a.tmps[i]? := by
  cases dst with
  | none => rfl
  | some d =>
    have : d ≠ i := fun e => h (by rw [e])
    simp [Act.put, Array.getElem?_setIfInBounds, this]
theorem RelG.put {G : List GE} {a : Act} {dst : Option Nat} {v : Value} (h : RelG G a.tmps) : RelG (dropG dst G) (a.put dst v).tmps := by
  intro q hq hs
  cases dst with
  | none => exact h q hq hs
  | some d =>
    simp only [dropG, List.mem_filter, Bool.not_eq_true', Bool.or_eq_false_iff, beq_eq_false_iff_ne] at hq
    obtain ⟨hm, ⟨h1, h2⟩, h3⟩ := hq
    rw [put_get (by intro e; cases e; exact h2 rfl)] at hs
    obtain ⟨cb, a1, a2⟩ := h q hm hs
    exact ⟨cb, by rw [put_get (by intro e; cases e; exact h3 rfl)]; exact a1, by rw [put_get (by intro e; cases e; exact h1 rfl)]; exact a2⟩
theorem findG_mem : ∀ {G : List GE} {i : Nat} {q : GE}, findG G i = some q → q ∈ G ∧ q.i = i
  | [], i, q, h => by cases h
  | p :: G, i, q, h => by
    simp only [findG] at h
    split at h
    · rename_i hp; cases h; exact ⟨List.mem_cons_self .., by simpa using hp⟩
    · obtain ⟨h1, h2⟩ := findG_mem h; exact ⟨List.mem_cons_of_mem _ h1, h2⟩
theorem locOf_some {E : Env} {i j o : Nat} (h : locOf E i = some (j, o)) : E.find i = some (.loc j o) := by
  unfold locOf at h
  split at h
  · rename_i h1; cases h; exact h1
  · cases h
/-- The guard being as it was, the address is what it was. -/
theorem resolve_rel {g : Gh} {G : List GE} {E : Env} {t : Array Value} {s : Nat} {w : Bool} {o : Op} (hE : RelE g E t) (hG : RelG G t) (hs : t[s]? = some (.bool w)) :
    RelE g (resolveG G E s w o) t := by
  unfold resolveG
  split
  · exact hE
  · split
    · exact hE
    · rename_i q hq
      split
      · rename_i hc
        split
        · rename_i j o' hl
          split
          · rename_i ho
            obtain ⟨rfl, rfl, _⟩ := hc
            obtain ⟨hm, hi⟩ := findG_mem hq
            obtain ⟨cb, h1, h2⟩ := hG q hm hs
            obtain ⟨v, h3, cb', h4, h5⟩ := hE _ _ (locOf_some hl)
            rw [h1] at h3
            cases h3
            subst ho
            injection h5 with h5
            injection h5 with h5
            injection h5 with h5
            intro i e he
            rw [find_cons] at he
            split at he
            · rename_i hii
              cases he
              refine ⟨_, (by rw [← hii, ← hi]; exact h2), cb', h4, by rw [h5]⟩
            · exact hE i e he
          · exact hE
        · exact hE
      · exact hE
theorem resolve_back {g : Gh} {G : List GE} {E : Env} {t : Array Value} {s : Nat} {w : Bool} {o : Op} (hE : RelE g (resolveG G E s w o) t) : RelE g E t := by
  unfold resolveG at hE
  split at hE
  · exact hE
  · rename_i p _
    split at hE
    · exact hE
    · rename_i q hq
      split at hE
      · rename_i hc
        split at hE
        · rename_i j o' hl
          split at hE
          · rename_i ho
            intro i e he
            by_cases hi : p = i
            · subst hi
              have hd := hc.2.2
              unfold isDead at hd
              rw [he] at hd
              cases e with
              | dead =>
                obtain ⟨v, h1, _⟩ := hE _ _ (show Env.find ((_, EV.loc j q.off) :: E) _ = some (EV.loc j q.off) by rw [find_cons, if_pos rfl])
                exact ⟨v, h1, trivial⟩
              | _ => cases hd
            · exact hE i e (by rw [find_cons, if_neg hi]; exact he)
          · exact hE
        · exact hE
      · exact hE

/-- An operation that reckons an address within a local block. -/
theorem baseOf_do {o : Oper} {E : Env} {L : Locs} {H : Heap} {b j ob : Nat} (hb : baseOf E o.op = some (b, j, ob)) {r : β} {K : Nat → Nat → Out β} (h : opEv X f Γ o E L H (fun e _ _ _ => onLoc e K) = .ok r) :
    ∃ j' off, K j' off = .ok r ∧ ∀ (β : Type) (L : Locs) (H : Heap) (k : EV → Env → Locs → Heap → Out β), opEv X f Γ o E L H k = k (.loc j' off) E L H := by
  unfold baseOf at hb
  unfold opEv at h ⊢
  cases ho : o.op with
  | load t a =>
    rw [ho] at h
    obtain ⟨ti, _, h⟩ := onO_ok h
    simp only at h
    split at h
    · rcases onE_ok h with ⟨_, _, _, h⟩ | ⟨_, _, h⟩
      · obtain ⟨_, _, h⟩ := onO_ok h; obtain ⟨_, _, h⟩ := Out.bind_ok h; cases h
      · obtain ⟨_, _, h⟩ := Out.bind_ok h; cases h
    · obtain ⟨_, _, h⟩ := onO_ok h; obtain ⟨_, _, h⟩ := Out.bind_ok h; cases h
  | nilCheck x =>
    rw [ho] at h hb
    simp only [addrOp] at hb
    simp only at h ⊢
    cases ht : tmpOf x with
    | none => rw [ht] at hb; cases hb
    | some i =>
      rw [ht] at h
      simp only at h
      rcases onE_ok h with ⟨j', off, h1, h2⟩ | ⟨_, _, h⟩
      · exact ⟨j', off, h2, fun β L H k => by simp only [ht, h1, onE]⟩
      · obtain ⟨_, _, h⟩ := Out.bind_ok h; cases h
  | fieldAddr s x fd =>
    rw [ho] at h hb
    simp only [addrOp] at hb
    obtain ⟨ti, q1, h⟩ := onO_ok h
    obtain ⟨fs, q2, h⟩ := onO_ok h
    obtain ⟨fl, q3, h⟩ := onO_ok h
    split at h
    · cases h
    · rename_i hz
      cases ht : tmpOf x with
      | none => rw [ht] at hb; cases hb
      | some i =>
        rw [ht] at h
        simp only at h
        rcases onE_ok h with ⟨j', off, h1, h2⟩ | ⟨_, _, h⟩
        · exact ⟨j', off + fl.1, h2, fun β L H k => by simp only [q1, q2, q3, onO, if_neg hz, ht, h1, onE]⟩
        · obtain ⟨_, _, h⟩ := Out.bind_ok h; cases h
  | indexAddr t x ix =>
    rw [ho] at h hb
    simp only [addrOp] at hb
    obtain ⟨i, q1, h⟩ := onO_ok h
    obtain ⟨ti, q2, h⟩ := onO_ok h
    split at h
    · obtain ⟨_, _, h⟩ := onO_ok h; obtain ⟨_, _, h⟩ := onO_ok h; obtain ⟨_, _, h⟩ := Out.bind_ok h; cases h
    · rename_i len e hk
      obtain ⟨te, q3, h⟩ := onO_ok h
      cases ht : tmpOf x with
      | none => rw [ht] at hb; cases hb
      | some y =>
        rw [ht] at h
        simp only at h
        rcases onE_ok h with ⟨j', off, h1, h2⟩ | ⟨_, _, h⟩
        · obtain ⟨off', h3, h4⟩ := Out.bind_ok h2
          exact ⟨j', off', h4, fun β L H k => by simp only [q1, q2, onO, hk, q3, ht, h1, onE, h3, Out.bind]⟩
        · obtain ⟨_, _, h⟩ := Out.bind_ok h; cases h
    · cases h
  | _ => rw [ho] at hb; cases hb

theorem evOps_sound (hX : X.Ok) (hΓ : Good X Γ) {ops : Array Oper} {n : Nat} {r : β} : ∀ {rest : List Oper} {G : List GE} {E : Env} {L : Locs} {H : Heap} {k : Env → Locs → Heap → Out β} (_ : evOps X f Γ ops.toList rest G E L H k = .ok r)
    {g : Gh} {a : Act} {w : World} (_ : Rel g L H w.heap) (_ : RelE g E a.tmps) (_ : RelG G a.tmps) (_ : GlobOk X g) (_ : rest.all (opSmall n) = true) (_ : n ≤ a.tmps.size) {Q : Exit → Act → World → Prop}
    (_ : ∀ E' L' H' g' (a' : Act) w', k E' L' H' = .ok r → Ext g g' → StepW w w' H H' → Rel g' L' H' w'.heap → RelE g' E' a'.tmps → a'.tmps.size = a.tmps.size → a'.defers = a.defers → Q .normal a' w'), wpList X.P ops Q rest a w
  | [], G, E, L, H, k, h, g, a, w, R, hE, hGs, hG, hs, hn, Q, hk => hk E L H g a w h (.refl g) (.refl H) R hE rfl rfl
  | o :: rest, G, E, L, H, k, h, g, a, w, R, hE, hGs, hG, hs, hn, Q, hk => by
    simp only [List.all_cons, Bool.and_eq_true] at hs
    have hd : ∀ d, o.dst = some d → d < a.tmps.size := fun d hd' => by
      have h1 := hs.1
      unfold opSmall at h1
      rw [hd'] at h1
      exact Nat.lt_of_lt_of_le (by simpa using h1) hn
    simp only [evOps] at h
    -- what follows
    have go : ∀ {G' : List GE} {E' : Env} {L' : Locs} {H' : Heap} {g' : Gh} {v : Value} {w' : World}, evOps X f Γ ops.toList rest G' E' L' H' k = .ok r → Ext g g' → StepW w w' H H' → Rel g' L' H' w'.heap →
        RelE g' E' (a.put o.dst v).tmps → RelG G' (a.put o.dst v).tmps → wpList X.P ops Q rest (a.put o.dst v) w' := fun hk' he hst hR hE' hG' => by
      refine evOps_sound hX hΓ hk' hR hE' hG' (hG.mono he) hs.2 (by rw [put_size]; exact hn) fun E2 L2 H2 g2 a2 w2 k2 e2 s2 R2 hE2 hz hdf => ?_
      exact hk E2 L2 H2 g2 a2 w2 k2 (he.trans e2) (hst.trans s2) R2 hE2 (by rw [hz, put_size]) (by rw [hdf, put_defers])
    -- it is carried out
    have yes : (opEv X f Γ o E L H fun v E L H => evOps X f Γ ops.toList rest (dropG o.dst G) (E.put o.dst v) L H k) = .ok r → o.wp X.P a w (wpList X.P ops Q rest) Q := fun h => by
      refine opEv_sound hX hΓ h R hE hG fun e E' L' H' g' v w' hk' he _ hst hR hE' hr => ?_
      exact go hk' he hst hR (hE'.put hd hr) hGs.put
    have other : evOps X f Γ ops.toList rest (dropG o.dst G) (E.put o.dst (.val undefA)) L H k = .ok r → wpList X.P ops Q rest (a.put o.dst undef) w := fun h =>
      go h (.refl g) (.refl H) R (hE.put hd (rep_undef g)) hGs.put
    unfold wpList
    cases hg : o.guard with
    | none =>
      rw [hg] at h
      rw [if_pos (by simp [Region.wanted, hg])]
      exact .inl (yes h)
    | some q =>
      obtain ⟨j, want⟩ := q
      rw [hg] at h
      simp only at h
      cases hs' : ops.toList[j]?.bind (·.dst) with
      | none => rw [hs'] at h; cases h
      | some s =>
        rw [hs'] at h
        simp only at h
        have hwy : ∀ b, E.find s = some (.val (.bool b)) → yielded ops a.tmps j = some b ∧ a.tmps[s]? = some (.bool b) := fun b hb => by
          refine ⟨wanted_yes hE (by rw [hs']; exact hb), ?_⟩
          obtain ⟨v, hv, hr⟩ := hE _ _ hb
          cases hr; exact hv
        have hwn : E.find s = some (.val (.tup [])) → yielded ops a.tmps j = none := fun hb => wanted_no hE (by rw [hs']; exact hb)
        split at h
        · rename_i hq
          obtain ⟨⟨v, H'⟩, h1, h2⟩ := Out.bind_ok h
          unfold guardEv at h1
          split at h1
          · rename_i b hb
            obtain ⟨hy, hy'⟩ := hwy b hb
            split at h1
            · rename_i hbw
              rw [if_pos (by simp only [Region.wanted, hg, hy]; simpa using hbw)]
              have hbw' : b = want := by simpa using hbw
              subst hbw'
              refine .inl (opEv_do hX hΓ (fun β k => opEv_quiet hq h1 k) R (resolve_rel hE hGs hy') hG fun g' u w' he _ hst hR hE' hr => ?_)
              exact go h2 he hst hR ((resolve_back hE').put hd hr) hGs.put
            · rename_i hbw
              cases h1
              rw [if_neg (by simp only [Region.wanted, hg, hy]; simpa using hbw)]
              exact other h2
          · rename_i hb
            cases h1
            have hy := hwn hb
            rw [if_neg (by simp [Region.wanted, hg, hy])]
            exact other h2
          · cases h1
        · split at h
          · rename_i b jb ob d hb hdst
            split at h
            · cases h
            · rename_i hne
              obtain ⟨j', off, h1, h2⟩ := baseOf_do hb h
              split at h1
              · rename_i hjj
                subst hjj
                have hbase : E.find b = some (.loc j' ob) := by
                  unfold baseOf at hb
                  split at hb
                  · cases hb
                  · rename_i t ht
                    cases hl : locOf E t with
                    | none => rw [hl] at hb; cases hb
                    | some q => obtain ⟨q1, q2⟩ := q; rw [hl] at hb; cases hb; exact locOf_some hl
                by_cases hw : Region.wanted o (yielded ops a.tmps) = true
                · rw [if_pos hw]
                  refine .inl (opEv_do hX hΓ (fun β k => h2 β L H k) R hE hG fun g' u w' he _ hst hR hE' hr => ?_)
                  refine go h1 he hst hR (hE'.put hd trivial) ?_
                  intro q hq hqs
                  rcases List.mem_cons.1 hq with rfl | hq
                  · obtain ⟨v0, b1, cb, b2, b3⟩ := hE' _ _ hbase
                    obtain ⟨cb', c1, c2⟩ := hr
                    rw [b2] at c1
                    cases c1
                    refine ⟨cb, ?_, ?_⟩
                    · simp only
                      rw [put_get (by rw [hdst]; intro e; cases e; exact hne (.inr rfl)), b1, b3]
                    · simp only
                      rw [hdst]
                      have := hd d hdst
                      simp [Act.put, this, c2]
                  · exact hGs.put q hq hqs
                · rw [if_neg hw]
                  refine go h1 (.refl g) (.refl H) R (hE.put hd trivial) ?_
                  intro q hq hqs
                  rcases List.mem_cons.1 hq with rfl | hq
                  · exfalso
                    simp only at hqs
                    rw [put_get (by rw [hdst]; intro e; cases e; exact hne (.inl rfl))] at hqs
                    refine hw ?_
                    simp only [Region.wanted, hg]
                    have : yielded ops a.tmps j = some want := by
                      cases ho : ops.toList[j]? with
                      | none => rw [ho] at hs'; cases hs'
                      | some oj =>
                        rw [ho] at hs'
                        have ho' : ops[j]? = some oj := by simpa using ho
                        have hd2 : oj.dst = some s := by simpa using hs'
                        simp [yielded, ho', hd2, hqs]
                    rw [this]
                    simp
                  · exact hGs.put q hq hqs
              · cases h1
          · unfold guardEv at h
            split at h
            · rename_i b hb
              obtain ⟨hy, _⟩ := hwy b hb
              split at h
              · rename_i hbw
                rw [if_pos (by simp only [Region.wanted, hg, hy]; simpa using hbw)]
                exact .inl (yes h)
              · rename_i hbw
                rw [if_neg (by simp only [Region.wanted, hg, hy]; simpa using hbw)]
                exact other h
            · rename_i hb
              have hy := hwn hb
              rw [if_neg (by simp [Region.wanted, hg, hy])]
              exact other h
            · cases h
end
end Go.Proofs.YtnhblghplohonaaGreatDoor.Ab
