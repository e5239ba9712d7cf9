/- The abstract machine: operations whose order is open. First: an operation looks at its own slots alone. -/
import Derived.Test.YtnhblghplohonaaGreatDoorAbJ
import Derived.Orders
set_option linter.unusedSimpArgs false
set_option linter.unusedVariables false
namespace Go.Proofs.YtnhblghplohonaaGreatDoor.Ab
open Go

section
variable {β : Type} {X : Ctx} {f : Nat} {Γ : CallsT}

theorem eval_congr {E E' : Env} {x : Operand} (h : ∀ t, x = .tmp t → E.find t = E'.find t) : E.eval X x = E'.eval X x := by
  cases x with
  | tmp t => simp only [Env.eval, Env.val, h t rfl]
  | _ => rfl
theorem evals_congr {E E' : Env} : ∀ {l : List Operand} (_ : ∀ x ∈ l, E.eval X x = E'.eval X x), E.evals X l = E'.evals X l
  | [], _ => rfl
  | x :: l, h => by
    simp only [Env.evals, h x (List.mem_cons_self ..), evals_congr fun y hy => h y (List.mem_cons_of_mem _ hy)]
theorem parts_congr {E E' : Env} : ∀ {l : List (Nat × Operand)} (_ : ∀ x ∈ l, E.eval X x.2 = E'.eval X x.2), partsOf X E l = partsOf X E' l
  | [], _ => rfl
  | (i, x) :: l, h => by
    simp only [partsOf, h (i, x) (List.mem_cons_self ..), parts_congr fun y hy => h y (List.mem_cons_of_mem _ hy)]
theorem opt_congr {E E' : Env} {o : Option Operand} (h : ∀ x, o = some x → E.eval X x = E'.eval X x) : optOf X E o = optOf X E' o := by
  cases o with
  | none => rfl
  | some x => simp only [optOf, h x rfl]

theorem opEv_congr {o : Oper} {E E' : Env} {L : Locs} {H : Heap} (h : ∀ t, Operand.tmp t ∈ o.op.operands.toList → E.find t = E'.find t) (K : EV → Locs → Heap → Out β) :
    opEv X f Γ o E L H (fun e _ L H => K e L H) = opEv X f Γ o E' L H (fun e _ L H => K e L H) := by
  have he : ∀ x ∈ o.op.operands.toList, E.eval X x = E'.eval X x := fun x hx => eval_congr fun t ht => h t (by rw [← ht]; exact hx)
  have ht : ∀ x ∈ o.op.operands.toList, ∀ t, tmpOf x = some t → E.find t = E'.find t := fun x hx t htt => h t (by rw [← tmpOf_some htt]; exact hx)
  unfold opEv
  cases hop : o.op with
  | move x =>
    rw [hop] at he ht
    cases x with
    | tmp t => simp only [ht (.tmp t) (by simp [Op.operands]) t rfl]
    | _ => rfl
  | assign x =>
    rw [hop] at he ht
    cases x with
    | tmp t => simp only [ht (.tmp t) (by simp [Op.operands]) t rfl]
    | _ => rfl
  | pick c a b => rw [hop] at he; simp only [he c (by simp [Op.operands]), he a (by simp [Op.operands]), he b (by simp [Op.operands])]
  | alloc t => simp only [newEv]
  | box t x => rw [hop] at he; simp only [newEv, he x (by simp [Op.operands])]
  | build t ps => rw [hop] at he; simp only [parts_congr (l := ps.toList) fun x hx => he x.2 (by simp [Op.operands]; exact ⟨x.1, by simpa using hx⟩)]
  | buildSlice t n ps => rw [hop] at he; simp only [parts_congr (l := ps.toList) fun x hx => he x.2 (by simp [Op.operands]; exact ⟨x.1, by simpa using hx⟩)]
  | load t a =>
    rw [hop] at he ht
    cases hta : tmpOf a with
    | none => simp only [hta, he a (by simp [Op.operands])]
    | some i => simp only [hta, ht a (by simp [Op.operands]) i hta]
  | store t a x =>
    rw [hop] at he ht
    cases hta : tmpOf a with
    | none => simp only [hta, he a (by simp [Op.operands]), he x (by simp [Op.operands])]
    | some i => simp only [hta, ht a (by simp [Op.operands]) i hta, he x (by simp [Op.operands])]
  | nilCheck a =>
    rw [hop] at he ht
    cases hta : tmpOf a with
    | none => simp only [hta, he a (by simp [Op.operands])]
    | some i => simp only [hta, ht a (by simp [Op.operands]) i hta]
  | fieldAddr s a fd =>
    rw [hop] at he ht
    cases hta : tmpOf a with
    | none => simp only [hta, he a (by simp [Op.operands])]
    | some i => simp only [hta, ht a (by simp [Op.operands]) i hta]
  | indexAddr t a ix =>
    rw [hop] at he ht
    cases hta : tmpOf a with
    | none => simp only [hta, he a (by simp [Op.operands]), he ix (by simp [Op.operands])]
    | some i => simp only [hta, ht a (by simp [Op.operands]) i hta, he a (by simp [Op.operands]), he ix (by simp [Op.operands])]
  | binOp p t x y q => rw [hop] at he; simp only [he x (by simp [Op.operands]), he y (by simp [Op.operands])]
  | unOp p t x => rw [hop] at he; simp only [he x (by simp [Op.operands])]
  | convert s d x => rw [hop] at he; simp only [he x (by simp [Op.operands])]
  | makeInterface t x => rw [hop] at he; simp only [he x (by simp [Op.operands])]
  | makeFunc fn a b => rw [hop] at he; simp only [evals_congr (l := a.toList) fun x hx => he x (by simp [Op.operands]; exact .inl (by simpa using hx)), evals_congr (l := b.toList) fun x hx => he x (by simp [Op.operands]; exact .inr (by simpa using hx))]
  | makeSlice t l c => rw [hop] at he; simp only [he l (by simp [Op.operands]), he c (by simp [Op.operands])]
  | makeMap t r => rfl
  | lookup t m k c => rw [hop] at he; simp only [he m (by simp [Op.operands]), he k (by simp [Op.operands])]
  | mapUpdate t m k x => rw [hop] at he; simp only [he m (by simp [Op.operands]), he k (by simp [Op.operands]), he x (by simp [Op.operands])]
  | slice t x lo hi mx =>
    rw [hop] at he
    cases mx with
    | some m => rfl
    | none => simp only [he x (by simp [Op.operands]), opt_congr (o := lo) fun y hy => he y (by simp [Op.operands, hy]), opt_congr (o := hi) fun y hy => he y (by simp [Op.operands, hy])]
  | field s x fd => rw [hop] at he; simp only [he x (by simp [Op.operands])]
  | index t x ix => rw [hop] at he; simp only [he x (by simp [Op.operands]), he ix (by simp [Op.operands])]
  | extract t ix => rw [hop] at he; simp only [he t (by simp [Op.operands])]
  | call c =>
    rw [hop] at he
    have hargs : E.evals X c.args.toList = E'.evals X c.args.toList := evals_congr fun x hx => he x (by simp [Op.operands, Call.operands]; exact .inr (by simpa using hx))
    simp only [hargs]
    cases hv : c.callee with
    | value fo => simp only [Callee.valueO, Callee.builtinO, onO, he fo (by simp [Op.operands, Call.operands, hv])]
    | _ => rfl
  | _ => rfl

/-- What an operation does is one answer, whatever follows. -/
def DetP (P : Locs → Heap → Prop) (E : Env) (F : (β : Type) → (EV → Env → Locs → Heap → Out β) → Out β) : Prop := (∃ e L' H', P L' H' ∧ ∀ (β : Type) k, F β k = k e E L' H') ∨ ∀ (β : Type) k, F β k = .no
section
variable {P : Locs → Heap → Prop} {E : Env}
theorem DetP.no : DetP P E (fun _ _ => .no) := .inr fun _ _ => rfl
theorem DetP.k {e : EV} {L' : Locs} {H' : Heap} (h : P L' H') : DetP P E (fun _ k => k e E L' H') := .inl ⟨e, L', H', h, fun _ _ => rfl⟩
theorem DetP.onO {α : Type} {o : Option α} {F : α → (β : Type) → (EV → Env → Locs → Heap → Out β) → Out β} (h : ∀ a, o = some a → DetP P E (F a)) : DetP P E (fun β k => onO o fun a => F a β k) := by
  cases o with
  | none => exact .no
  | some a => exact h a rfl
theorem DetP.bind {α : Type} {x : Out α} {F : α → (β : Type) → (EV → Env → Locs → Heap → Out β) → Out β} (h : ∀ a, DetP P E (F a)) : DetP P E (fun β k => x.bind fun a => F a β k) := by
  cases x with
  | no => exact .no
  | ok a => exact h a
theorem DetP.ite {c : Prop} [Decidable c] {F G : (β : Type) → (EV → Env → Locs → Heap → Out β) → Out β} (h : c → DetP P E F) (h' : ¬ c → DetP P E G) : DetP P E (fun β k => if c then F β k else G β k) := by
  by_cases hc : c
  · simp only [if_pos hc]; exact h hc
  · simp only [if_neg hc]; exact h' hc
theorem DetP.onE {o : Option EV} {F : Nat → Nat → (β : Type) → (EV → Env → Locs → Heap → Out β) → Out β} {G : AV → (β : Type) → (EV → Env → Locs → Heap → Out β) → Out β} (h : ∀ i j, o = some (.loc i j) → DetP P E (F i j)) (h' : ∀ a, DetP P E (G a)) :
    DetP P E (fun β k => onE o (fun i j => F i j β k) (fun a => G a β k)) := by
  cases o with
  | none => exact .no
  | some e => cases e with
    | loc i j => exact h i j rfl
    | val a => exact h' a
    | dead => exact .no
end

/-- A call leaves the local blocks; what does not write leaves all. -/
def Keeps (X : Ctx) (f : Nat) (o : Oper) (L : Locs) (H : Heap) (L' : Locs) (H' : Heap) : Prop := (cls X f o ≤ 1 → L' = L ∧ H' = H) ∧ (isCall o = true → L' = L)
theorem Keeps.same {o : Oper} {L : Locs} {H : Heap} : Keeps X f o L H L H := ⟨fun _ => ⟨rfl, rfl⟩, fun _ => rfl⟩
theorem Keeps.two {o : Oper} {L L' : Locs} {H H' : Heap} (h : cls X f o = 2) (hc : isCall o = false) : Keeps X f o L H L' H' := ⟨fun h' => by omega, fun h' => by rw [hc] at h'; cases h'⟩

theorem opEv_detA {o : Oper} {E : Env} {L : Locs} {H : Heap} (hl : newLoc X f o = false) : DetP (Keeps X f o L H) E (fun β k => opEv X f Γ o E L H k) := by
  unfold opEv
  unfold newLoc at hl
  have hnew : ∀ (t : TypeId) (z : AV), (match o.dst with | some d => X.loc f d | none => false) = false → cls X f o = 2 → isCall o = false → DetP (Keeps X f o L H) E (fun β k => newEv X f t z o.dst E L H k) := by
    intro t z h h1 h2
    unfold newEv
    refine .bind fun cs => .onO fun d hd => .ite (fun hl => ?_) fun _ => .k (.two h1 h2)
    rw [hd] at h
    simp [hl] at h
  cases ho : o.op with
  | move x => cases x <;> exact .onO fun _ _ => .k .same
  | assign x => cases x <;> exact .onO fun _ _ => .k .same
  | alloc t => rw [ho] at hl; exact .onO fun ti _ => .onO fun z _ => hnew t z hl (by simp [cls, ho]) (by simp [isCall, ho])
  | box t x => rw [ho] at hl; exact .onO fun z _ => hnew t z hl (by simp [cls, ho]) (by simp [isCall, ho])
  | build t parts =>
    refine .onO fun ti _ => .onO fun _ _ => .onO fun _ _ => .bind fun _ => ?_
    cases ti.k <;> repeat' first | exact DetP.no | exact DetP.k .same | refine DetP.onO fun _ _ => ?_ | refine DetP.bind fun _ => ?_
  | buildSlice t n parts =>
    refine .onO fun ti _ => .onO fun _ _ => .onO fun _ _ => .onO fun _ _ => .onO fun _ _ => .ite (fun _ => .bind fun _ => .onO fun d hd => .ite (fun _ => .k .same) fun hf => .k (.two ?_ ?_)) fun _ => .no
    · simp [cls, ho, hd, hf]
    · simp [isCall, ho]
  | load t a =>
    refine .onO fun ti _ => ?_
    cases tmpOf a <;> simp only <;> repeat' first | exact DetP.no | exact DetP.k .same | refine DetP.onO fun _ _ => ?_ | refine DetP.bind fun _ => ?_ | refine DetP.onE (fun _ _ _ => ?_) (fun _ => ?_)
  | store t a x =>
    have h1 : cls X f o = 2 := by simp [cls, ho]
    have h2 : isCall o = false := by simp [isCall, ho]
    refine .onO fun ti _ => .onO fun _ _ => ?_
    cases tmpOf a <;> simp only <;> repeat' first | exact DetP.no | exact DetP.k (.two h1 h2) | refine DetP.onO fun _ _ => ?_ | refine DetP.bind fun _ => ?_ | refine DetP.onE (fun _ _ _ => ?_) (fun _ => ?_)
  | nilCheck x =>
    simp only
    cases tmpOf x <;> simp only <;> repeat' first | exact DetP.no | exact DetP.k .same | refine DetP.onO fun _ _ => ?_ | refine DetP.bind fun _ => ?_ | refine DetP.onE (fun _ _ _ => ?_) (fun _ => ?_)
  | makeMap t res =>
    have h1 : cls X f o = 2 := by simp [cls, ho]
    have h2 : isCall o = false := by simp [isCall, ho]
    cases res <;> simp only <;> repeat' first | exact DetP.no | exact DetP.k (.two h1 h2) | refine DetP.onO fun _ _ => ?_
  | slice t x lo hi mx =>
    cases mx <;> simp only <;> repeat' first | exact DetP.no | exact DetP.k .same | refine DetP.onO fun _ _ => ?_ | refine DetP.bind fun _ => ?_ | refine DetP.ite (fun _ => ?_) (fun _ => ?_)
  | fieldAddr s x fd =>
    refine .onO fun ti _ => .onO fun _ _ => .onO fun fl _ => .ite (fun _ => .no) fun _ => ?_
    cases tmpOf x <;> simp only <;> repeat' first | exact DetP.no | exact DetP.k .same | refine DetP.onO fun _ _ => ?_ | refine DetP.bind fun _ => ?_ | refine DetP.onE (fun _ _ _ => ?_) (fun _ => ?_)
  | indexAddr t x ix =>
    refine .onO fun i _ => .onO fun ti _ => ?_
    cases ti.k with
    | array len e =>
      refine .onO fun te _ => ?_
      cases tmpOf x <;> simp only <;> repeat' first | exact DetP.no | exact DetP.k .same | refine DetP.onO fun _ _ => ?_ | refine DetP.bind fun _ => ?_ | refine DetP.onE (fun _ _ _ => ?_) (fun _ => ?_)
    | slice e => simp only; repeat' first | exact DetP.no | exact DetP.k .same | refine DetP.onO fun _ _ => ?_ | refine DetP.bind fun _ => ?_
    | _ => exact .no
  | makeSlice t l c =>
    have h1 : cls X f o = 2 := by simp [cls, ho]
    have h2 : isCall o = false := by simp [isCall, ho]
    simp only; repeat' first | exact DetP.no | exact DetP.k (.two h1 h2) | refine DetP.onO fun _ _ => ?_ | refine DetP.bind fun _ => ?_
  | convert s d x =>
    have h2 : isCall o = false := by simp [isCall, ho]
    cases hcc : (intT X s && intT X d) with
    | false =>
      have h1 : cls X f o = 2 := by simp only [cls, ho, hcc]; rfl
      simp only; repeat' first | exact DetP.no | exact DetP.k (.two h1 h2) | refine DetP.onO fun _ _ => ?_ | refine DetP.bind fun _ => ?_ | refine DetP.ite (fun _ => ?_) (fun _ => ?_)
    | true =>
      refine .onO fun a _ => .onO fun ts q2 => .onO fun td q3 => ?_
      have hn : ts.k.isInt = true ∧ td.k.isInt = true := by simpa [intT, q2, q3] using hcc
      have e1 : ts.k.isStr = false := by cases hk : ts.k <;> simp [hk, TK.isInt] at hn ⊢ <;> rfl
      have e2 : td.k.isStr = false := by cases hk : td.k <;> simp [hk, TK.isInt] at hn ⊢ <;> rfl
      simp only [e1, e2, Bool.false_and, Bool.false_eq_true, if_false]
      exact .bind fun _ => .k .same
  | mapUpdate t m k x =>
    have h1 : cls X f o = 2 := by simp [cls, ho]
    have h2 : isCall o = false := by simp [isCall, ho]
    simp only; repeat' first | exact DetP.no | exact DetP.k (.two h1 h2) | refine DetP.onO fun _ _ => ?_ | refine DetP.bind fun _ => ?_
  | call c =>
    refine .onO fun as _ => ?_
    cases hb : Callee.builtinO c.callee with
    | some b =>
      have h2 : isCall o = false := by simp [isCall, ho, hb]
      cases b <;> simp only [builtinEv] <;> first
        | exact DetP.no
        | (repeat' first | exact DetP.no | exact DetP.k .same | refine DetP.onO fun _ _ => ?_ | refine DetP.bind fun _ => ?_ | refine DetP.ite (fun _ => ?_) (fun _ => ?_)) <;> done
        | (have h1 : cls X f o = 2 := by simp [cls, ho, hb]
           repeat' first | exact DetP.no | exact DetP.k (.two h1 h2) | refine DetP.onO fun _ _ => ?_ | refine DetP.bind fun _ => ?_ | refine DetP.ite (fun _ => ?_) (fun _ => ?_))
    | none =>
      have h1 : cls X f o = 2 := by simp [cls, ho, hb]
      simp only [callV]
      exact .onO fun _ _ => .onO fun _ _ => .onO fun _ _ => .bind fun _ => .k ⟨fun h => by omega, fun _ => rfl⟩
  | _ =>
    simp only
    repeat' first | exact DetP.no | exact DetP.k .same | refine DetP.onO fun _ _ => ?_ | refine DetP.bind fun _ => ?_ | refine DetP.ite (fun _ => ?_) (fun _ => ?_)

/-- What looks at slots alone does the same over every memory. -/
theorem opEv_pure {o : Oper} {E : Env} (hc : cls X f o = 0) : (∃ e, ∀ (β : Type) L H k, opEv (β := β) X f Γ o E L H k = k e E L H) ∨ ∀ (β : Type) L H k, opEv (β := β) X f Γ o E L H k = .no := by
  have hl : newLoc X f o = false := by
    unfold newLoc; unfold cls at hc
    split <;> first | rfl | (rename_i ho; rw [ho] at hc; cases hc)
  have key : ∀ L H L2 H2, ∀ e, opEv X f Γ o E L H (fun e _ _ _ => Out.ok e) = .ok e → opEv X f Γ o E L2 H2 (fun e _ _ _ => Out.ok e) = .ok e := by
    intro L H L2 H2 e h
    cases ho : o.op <;> first
      | (exfalso; simp [cls, ho] at hc; done)
      | (unfold opEv at h ⊢; rw [ho] at h ⊢; simp only at h ⊢)
    case slice t x lo hi mx =>
      cases mx with
      | some m => cases h
      | none =>
        obtain ⟨vlo, q1, h⟩ := onO_ok h
        obtain ⟨vhi, q2, h⟩ := onO_ok h
        obtain ⟨ti, q3, h⟩ := onO_ok h
        obtain ⟨vx, q4, h⟩ := onO_ok h
        have hn : ti.k.arrayE.isSome = false := by
          unfold cls arrT at hc
          rw [ho] at hc
          simp only [q3] at hc
          cases hh : ti.k.arrayE.isSome with
          | false => rfl
          | true => rw [hh] at hc; cases hc
        simp only [q1, q2, q3, q4, onO]
        rw [hn] at h ⊢
        exact h
    case convert src dst x =>
      obtain ⟨a, q1, h⟩ := onO_ok h
      obtain ⟨ts, q2, h⟩ := onO_ok h
      obtain ⟨td, q3, h⟩ := onO_ok h
      have hn : ts.k.isInt = true ∧ td.k.isInt = true := by
        unfold cls intT at hc
        rw [ho] at hc
        simp only [q2, q3] at hc
        cases h1 : ts.k.isInt <;> cases h2 : td.k.isInt <;> simp [h1, h2] at hc ⊢
      have h1 : ts.k.isStr = false := by cases hk : ts.k <;> simp [hk, TK.isInt] at hn ⊢ <;> rfl
      have h2 : td.k.isStr = false := by cases hk : td.k <;> simp [hk, TK.isInt] at hn ⊢ <;> rfl
      simp only [q1, q2, q3, onO]
      simp only [h1, h2, Bool.false_and, Bool.false_eq_true, if_false] at h ⊢
      exact h
    all_goals try (exact h)
    case buildSlice t n ps =>
      obtain ⟨ti, q1, h⟩ := onO_ok h
      obtain ⟨vs, q2, h⟩ := onO_ok h
      obtain ⟨e1, q3, h⟩ := onO_ok h
      obtain ⟨te, q4, h⟩ := onO_ok h
      obtain ⟨z, q5, h⟩ := onO_ok h
      split at h
      · rename_i hcond
        obtain ⟨cs, q6, h⟩ := Out.bind_ok h
        obtain ⟨d, q7, h⟩ := onO_ok h
        unfold cls at hc
        rw [ho] at hc
        simp only [q7] at hc
        split at hc
        · rename_i hf
          rw [if_pos hf] at h
          simp only [q1, q2, q3, q4, q5, onO, if_pos hcond, q6, Out.bind, q7, if_pos hf]
          exact h
        · cases hc
      · cases h
    case call c =>
      exfalso
      unfold cls at hc
      rw [ho] at hc
      simp only at hc
      split at hc <;> cases hc
  by_cases hex : ∃ L H e, opEv X f Γ o E L H (fun e _ _ _ => Out.ok e) = .ok e
  · obtain ⟨L, H, e, h⟩ := hex
    refine .inl ⟨e, fun β L2 H2 k => ?_⟩
    have h2 := key L H L2 H2 e h
    rcases opEv_detA (Γ := Γ) (E := E) (L := L2) (H := H2) hl with ⟨e', L', H', ⟨hk, _⟩, hd⟩ | hd
    · have h3 := hd _ (fun e _ _ _ => Out.ok e)
      simp only at h3
      rw [h3] at h2
      cases h2
      obtain ⟨rfl, rfl⟩ := hk (by omega)
      exact hd _ k
    · have h3 := hd _ (fun e _ _ _ => Out.ok e)
      simp only at h3
      rw [h3] at h2
      cases h2
  · refine .inr fun β L2 H2 k => ?_
    rcases opEv_detA (Γ := Γ) (E := E) (L := L2) (H := H2) hl with ⟨e', L', H', _, hd⟩ | hd
    · exact absurd ⟨L2, H2, e', hd _ (fun e _ _ _ => Out.ok e)⟩ hex
    · exact hd _ k

theorem restRun_det {q : Bool} {o : Oper} {E : Env} {L : Locs} {H : Heap} (hl : newLoc X f o = false) :
    (∃ e L' H', (q = true ∨ cls X f o ≤ 1 → L' = L ∧ H' = H) ∧ ∀ (β : Type) k, restRun (β := β) X f Γ q o E L H k = k e L' H') ∨ ∀ (β : Type) k, restRun (β := β) X f Γ q o E L H k = .no := by
  unfold restRun
  cases q with
  | true =>
    simp only [if_true]
    rcases opEv_detA (Γ := Γ) (E := E) (L := L) (H := { H with low := H.n }) hl with ⟨e, L', H', _, hd⟩ | hd
    · by_cases hc : H'.n = H.n ∧ H'.low = H.n
      · refine .inl ⟨e, L, H, fun _ => ⟨rfl, rfl⟩, fun β k => ?_⟩
        have := hd β (fun e _ _ H' => if H'.n = H.n ∧ H'.low = H.n then k e L H else .no)
        simp only [if_pos hc] at this
        exact this
      · refine .inr fun β k => ?_
        have := hd β (fun e _ _ H' => if H'.n = H.n ∧ H'.low = H.n then k e L H else .no)
        simp only [if_neg hc] at this
        exact this
    · exact .inr fun β k => hd β _
  | false =>
    simp only [Bool.false_eq_true, if_false, false_or]
    rcases opEv_detA (Γ := Γ) (E := E) (L := L) (H := H) hl with ⟨e, L', H', ⟨hk, _⟩, hd⟩ | hd
    · exact .inl ⟨e, L', H', hk, fun β k => hd β _⟩
    · exact .inr fun β k => hd β _

theorem restRun_do (hX : X.Ok) (hΓ : Good X Γ) {q : Bool} {o : Oper} {E : Env} {L L' : Locs} {H H' : Heap} {e : EV} (hq : q = true → isCall o = true) (hl : newLoc X f o = false)
    (h : ∀ (β : Type) k, restRun (β := β) X f Γ q o E L H k = k e L' H') {g : Gh} {a : Act} {w : World} (R : Rel g L H w.heap) (hE : RelE g E a.tmps) (hG : GlobOk X g) {next : Act → World → Prop} {Q : Exit → Act → World → Prop}
    (hn : ∀ g' v w', Ext g g' → (∀ j y, g.l j = some y → g'.l j = some y) → StepW w w' H H' → Rel g' L' H' w'.heap → RepE g' e v → next (a.put o.dst v) w') : o.upon X.P a next Q ((execOp a.eval o).run X.P w) := by
  have hnl : ∀ {g' : Gh}, (∀ j y, (newLoc X f o = true → o.dst ≠ some j) → g.l j = some y → g'.l j = some y) → ∀ j y, g.l j = some y → g'.l j = some y :=
    fun h j y hy => h j y (fun h' => by rw [hl] at h'; cases h') hy
  unfold restRun at h
  cases q with
  | true =>
    simp only [if_true] at h
    rcases opEv_detA (Γ := Γ) (E := E) (L := L) (H := { H with low := H.n }) hl with ⟨e1, L1, H1, ⟨_, hk⟩, hd⟩ | hd
    · have h1 := h _ (fun e L H => Out.ok (e, L, H))
      have h2 := hd _ (fun e _ _ H' => if H'.n = H.n ∧ H'.low = H.n then Out.ok (e, L, H) else .no)
      simp only at h1 h2
      rw [h2] at h1
      split at h1
      · rename_i hc
        cases h1
        have hL := hk (hq rfl)
        subst hL
        refine opEv_do (L := L1) hX hΓ hd (H := { H with low := H.n }) ⟨R.fr, R.im, R.dom, R.blk, R.loc, R.own⟩ hE hG fun g' v w' he hlk hst R' hE' hr => ?_
        refine hn g' v w' he (hnl hlk) ⟨.refl H, hst.k⟩ ⟨R'.fr, R'.im, fun b x hb => by rw [← hc.1]; exact R'.dom b x hb, fun b x hb => ?_, R'.loc, R'.own⟩ hr
        obtain ⟨cb, base, top, h3, _⟩ := R.blk b x hb
        have hlt := R.dom b _ h3
        refine R'.blk b x ?_
        rw [hst.s.get b (by rw [hc.2]; exact hlt) hlt]
        exact hb
      · cases h1
    · have h1 := h _ (fun e L H => Out.ok (e, L, H))
      have h2 := hd _ (fun e _ _ H' => if H'.n = H.n ∧ H'.low = H.n then Out.ok (e, L, H) else .no)
      simp only at h1 h2
      rw [h2] at h1
      cases h1
  | false =>
    simp only [Bool.false_eq_true, if_false] at h
    rcases opEv_detA (Γ := Γ) (E := E) (L := L) (H := H) hl with ⟨e1, L1, H1, _, hd⟩ | hd
    · have h1 := h _ (fun e L H => Out.ok (e, L, H))
      have h2 := hd _ (fun e _ L H => Out.ok (e, L, H))
      simp only at h1 h2
      rw [h2] at h1
      cases h1
      exact opEv_do hX hΓ hd R hE hG fun g' v w' he hlk hst R' hE' hr => hn g' v w' he (hnl hlk) hst R' hr
    · have h1 := h _ (fun e L H => Out.ok (e, L, H))
      have h2 := hd _ (fun e _ L H => Out.ok (e, L, H))
      simp only at h1 h2
      rw [h2] at h1
      cases h1

/-- Two frames that are alike as far as an operation looks. -/
structure Agree (all : List Oper) (o : Oper) (G : List GE) (E : Env) (Gr : List GE) (Er : Env) : Prop where
  sl : ∀ t ∈ looksOf all o, Er.find t = E.find t
  gl : ∀ t, addrOp o.op = some t → findG Gr t = findG G t
  bl : ∀ t x, addrOp o.op = some t → findG G t = some x → Er.find x.b = E.find x.b

theorem mem_slots {o : Oper} {x : Operand} {t : Nat} (hx : x ∈ o.op.operands.toList) (ht : tmpOf x = some t) : t ∈ slotsOf o := List.mem_filterMap.2 ⟨x, hx, ht⟩
theorem addr_slot {o : Oper} {t : Nat} (h : addrOp o.op = some t) : t ∈ slotsOf o := by
  unfold addrOp at h
  split at h
  · rename_i ho; exact mem_slots (by rw [ho]; simp [Op.operands]) h
  · rename_i ho; exact mem_slots (by rw [ho]; simp [Op.operands]) h
  · rename_i ho; exact mem_slots (by rw [ho]; simp [Op.operands]) h
  · rename_i ho; exact mem_slots (by rw [ho]; simp [Op.operands]) h
  · cases h
theorem slots_looks {all : List Oper} {o : Oper} {t : Nat} (h : t ∈ slotsOf o) : t ∈ looksOf all o := List.mem_append_left _ h
theorem opEv_congr' {o : Oper} {E E' : Env} {L : Locs} {H : Heap} (h : ∀ t ∈ slotsOf o, E.find t = E'.find t) (K : EV → Locs → Heap → Out β) :
    opEv X f Γ o E L H (fun e _ L H => K e L H) = opEv X f Γ o E' L H (fun e _ L H => K e L H) := opEv_congr (fun t ht => h t (mem_slots ht rfl)) K
theorem restRun_congr {q : Bool} {o : Oper} {E E' : Env} {L : Locs} {H : Heap} (h : ∀ t ∈ slotsOf o, E.find t = E'.find t) (K : EV → Locs → Heap → Out β) : restRun X f Γ q o E L H K = restRun X f Γ q o E' L H K := by
  unfold restRun
  cases q with
  | true => exact opEv_congr' h (fun e _ H' => if H'.n = H.n ∧ H'.low = H.n then K e L H else .no)
  | false => exact opEv_congr' h K
theorem resolve_find {all : List Oper} {o : Oper} {G Gr : List GE} {E Er : Env} (A : Agree all o G E Gr Er) (s : Nat) (w : Bool) : ∀ t ∈ slotsOf o, (resolveG Gr Er s w o.op).find t = (resolveG G E s w o.op).find t := by
  intro t' ht'
  have hs := A.sl t' (slots_looks ht')
  unfold resolveG
  cases ha : addrOp o.op with
  | none => exact hs
  | some t =>
    simp only [A.gl t ha]
    cases hg : findG G t with
    | none => exact hs
    | some x =>
      simp only
      have h1 : isDead Er t = isDead E t := by unfold isDead; rw [A.sl t (slots_looks (addr_slot ha))]
      have h2 : locOf Er x.b = locOf E x.b := by unfold locOf; rw [A.bl t x ha hg]
      rw [h1, h2]
      split
      · cases locOf E x.b with
        | none => exact hs
        | some y =>
          simp only
          split
          · rw [find_cons, find_cons, hs]
          · exact hs
      · exact hs
theorem quiet_congr {o : Oper} {E E' : Env} (h : ∀ t ∈ slotsOf o, E.find t = E'.find t) : quietOp X f E o = quietOp X f E' o := by
  have hn : ∀ x ∈ o.op.operands.toList, noLoc E x = noLoc E' x := fun x hx => by
    unfold noLoc
    cases ht : tmpOf x with
    | none => rfl
    | some t => simp only [h t (mem_slots hx ht)]
  unfold quietOp
  cases ho : o.op <;> rw [ho] at hn <;> simp only <;> first
    | rfl
    | exact hn _ (by simp [Op.operands])
theorem base_congr {all : List Oper} {o : Oper} {G Gr : List GE} {E Er : Env} (A : Agree all o G E Gr Er) : baseOf Er o.op = baseOf E o.op := by
  unfold baseOf
  cases ha : addrOp o.op with
  | none => rfl
  | some t => simp only [locOf, A.sl t (slots_looks (addr_slot ha))]
theorem guard_look {all : List Oper} {o : Oper} {j s : Nat} {want : Bool} (hg : o.guard = some (j, want)) (hs : all[j]?.bind (·.dst) = some s) : s ∈ looksOf all o := by
  unfold looksOf
  rw [hg]
  simp only [hs]
  exact List.mem_append_right _ (by simp)

/-- What an operation adds to the addresses under a guard. -/
def Adds (all : List Oper) (o : Oper) (G G' : List GE) : Prop := G' = G ∨ ∃ x j, G' = x :: G ∧ o.dst = some x.i ∧ all.any (fun p => p.dst == some x.b) = false ∧ o.guard = some (j, x.w) ∧ all[j]?.bind (·.dst) = some x.s ∧ x.i ≠ x.s ∧ x.i ≠ x.b

theorem stepD_det {all : List Oper} {q : Bool} {o : Oper} {G : List GE} {E : Env} {L : Locs} {H : Heap} :
    (∃ G' e L' H', newLoc X f o = false ∧ (q = true ∨ cls X f o ≤ 1 → L' = L ∧ H' = H) ∧ Adds all o G G' ∧ ∀ (β : Type) K, stepD (β := β) X f Γ all q o G E L H K = K G' e L' H') ∨ ∀ (β : Type) K, stepD (β := β) X f Γ all q o G E L H K = .no := by
  unfold stepD
  cases hl : newLoc X f o with
  | true => exact .inr fun β K => by simp only [if_true]
  | false =>
    simp only [Bool.false_eq_true, if_false]
    cases hg : o.guard with
    | none =>
      simp only
      rcases restRun_det (Γ := Γ) (q := q) (E := E) (L := L) (H := H) hl with ⟨e, L', H', h1, h2⟩ | h2
      · exact .inl ⟨G, e, L', H', trivial, h1, .inl rfl, fun β K => h2 β _⟩
      · exact .inr fun β K => h2 β _
    | some p =>
      obtain ⟨j, want⟩ := p
      simp only
      cases hs : all[j]?.bind (·.dst) with
      | none => exact .inr fun β K => rfl
      | some s =>
        simp only
        split
        · rename_i hq
          have hgo : ∀ (b : Bool), E.find s = some (.val (.bool b)) → (∃ G' e L' H', True ∧ (q = true ∨ cls X f o ≤ 1 → L' = L ∧ H' = H) ∧ Adds all o G G' ∧ ∀ (β : Type) (K : List GE → EV → Locs → Heap → Out β),
              ((guardEv (E.find s) want (restRun X f Γ q o (resolveG G E s want o.op) L H fun e _ H' => valK e H') (.ok (undefA, H))).bind fun r => K G (.val r.1) L r.2) = K G' e L' H') ∨ ∀ (β : Type) (K : List GE → EV → Locs → Heap → Out β),
              ((guardEv (E.find s) want (restRun X f Γ q o (resolveG G E s want o.op) L H fun e _ H' => valK e H') (.ok (undefA, H))).bind fun r => K G (.val r.1) L r.2) = .no := by
            intro b hb
            rw [hb]
            by_cases hbw : b = want
            · subst hbw
              have hgd : ∀ (A B : Out Ans), guardEv (some (.val (.bool b))) b A B = A := fun A B => by simp [guardEv]
              simp only [hgd]
              rcases restRun_det (Γ := Γ) (q := q) (E := resolveG G E s b o.op) (L := L) (H := H) hl with ⟨e, L', H', h1, h2⟩ | h2
              · cases e with
                | val v => exact .inl ⟨G, .val v, L, H', trivial, fun h => ⟨rfl, (h1 h).2⟩, .inl rfl, fun β K => by rw [h2]; rfl⟩
                | _ => exact .inr fun β K => by rw [h2]; rfl
              · exact .inr fun β K => by rw [h2]; rfl
            · have hgd : ∀ (A B : Out Ans), guardEv (some (.val (.bool b))) want A B = B := fun A B => by simp [guardEv, hbw]
              simp only [hgd]
              exact .inl ⟨G, .val undefA, L, H, trivial, fun _ => ⟨rfl, rfl⟩, .inl rfl, fun β K => rfl⟩
          by_cases hex : ∃ b, E.find s = some (.val (.bool b))
          · obtain ⟨b, hb⟩ := hex; exact hgo b hb
          · by_cases hex2 : E.find s = some (.val (.tup []))
            · rw [hex2]; exact .inl ⟨G, .val undefA, L, H, trivial, fun _ => ⟨rfl, rfl⟩, .inl rfl, fun β K => rfl⟩
            · refine .inr fun β K => ?_
              have : guardEv (E.find s) want (restRun X f Γ q o (resolveG G E s want o.op) L H fun e _ H' => valK e H') (.ok (undefA, H)) = .no := by
                unfold guardEv
                split
                · rename_i b hb; exact absurd ⟨b, hb⟩ hex
                · rename_i hb; exact absurd hb hex2
                · rfl
              rw [this]; rfl
        · cases hb : baseOf E o.op with
          | none => exact .inr fun β K => rfl
          | some y =>
            obtain ⟨b, jb, ob⟩ := y
            cases hd : o.dst with
            | none => exact .inr fun β K => rfl
            | some d =>
              simp only
              split
              · exact .inr fun β K => rfl
              · rename_i hne
                simp only [not_or] at hne
                rcases opEv_detA (Γ := Γ) (E := E) (L := L) (H := H) hl with ⟨e, L', H', _, h2⟩ | h2
                · cases e with
                  | loc j' off =>
                    by_cases hj : j' = jb
                    · exact .inl ⟨_, .dead, L, H, trivial, fun _ => ⟨rfl, rfl⟩, .inr ⟨⟨d, s, want, b, ob, off⟩, j, rfl, hd, by simpa using hne.2.2, hg, hs, hne.1, hne.2.1⟩, fun β K => (h2 β _).trans (by simp only [onLoc, if_pos hj])⟩
                    · exact .inr fun β K => (h2 β _).trans (by simp only [onLoc, if_neg hj])
                  | _ => exact .inr fun β K => (h2 β _).trans rfl
                · exact .inr fun β K => h2 β _

def EntryOk (x : GE) (t : Array Value) : Prop := t[x.s]? = some (.bool x.w) → ∃ cb, t[x.b]? = some (.pointer (some ⟨cb, x.o, none⟩)) ∧ t[x.i]? = some (.pointer (some ⟨cb, x.off, none⟩))

/-- A run that looks at slots alone, over other memory. -/
theorem run_at {q : Bool} {o : Oper} {E Er : Env} {L L' L2 L2' : Locs} {H H' H2 H2' : Heap} {e : EV} (h : ∀ (β : Type) k, restRun (β := β) X f Γ q o E L H k = k e L' H') (hs : ∀ t ∈ slotsOf o, Er.find t = E.find t)
    (hLH : (q = false ∧ cls X f o = 0 ∧ L2' = L2 ∧ H2' = H2) ∨ (L2 = L ∧ H2 = H ∧ L2' = L' ∧ H2' = H')) : ∀ (β : Type) k, restRun (β := β) X f Γ q o Er L2 H2 k = k e L2' H2' := by
  intro β k
  rw [restRun_congr hs]
  rcases hLH with ⟨rfl, hc, rfl, rfl⟩ | ⟨rfl, rfl, rfl, rfl⟩
  · rcases opEv_pure (Γ := Γ) (E := E) hc with ⟨e0, h0⟩ | h0
    · have h1 := h _ (fun e _ _ => Out.ok e)
      have h2 : restRun X f Γ false o E L H (fun e _ _ => Out.ok e) = .ok e0 := h0 _ L H (fun e _ _ _ => Out.ok e)
      rw [h2] at h1
      cases h1
      exact h0 _ _ _ (fun e _ L H => k e L H)
    · have h1 := h _ (fun e _ _ => Out.ok e)
      have h2 : restRun X f Γ false o E L H (fun e _ _ => Out.ok e) = .no := h0 _ L H (fun e _ _ _ => Out.ok e)
      rw [h2] at h1
      cases h1
  · exact h β k

theorem stepD_do (hX : X.Ok) (hΓ : Good X Γ) {ops : Array Oper} {q : Bool} {o : Oper} {G G' Gr : List GE} {E Er : Env} {L L' L2 L2' : Locs} {H H' H2 H2' : Heap} {e : EV} (hq : q = true → isCall o = true)
    (h : ∀ (β : Type) K, stepD (β := β) X f Γ ops.toList q o G E L H K = K G' e L' H') (A : Agree ops.toList o G E Gr Er)
    (hLH : (q = false ∧ cls X f o = 0 ∧ L2' = L2 ∧ H2' = H2) ∨ (L2 = L ∧ H2 = H ∧ L2' = L' ∧ H2' = H'))
    {g : Gh} {a : Act} {w : World} (R : Rel g L2 H2 w.heap) (hE : RelE g Er a.tmps) (hGs : RelG Gr a.tmps) (hG : GlobOk X g) (hd : ∀ d, o.dst = some d → d < a.tmps.size) {next : Act → World → Prop} {Q : Exit → Act → World → Prop}
    (hn : ∀ g' v w', Ext g g' → (∀ j y, g.l j = some y → g'.l j = some y) → StepW w w' H2 H2' → Rel g' L2' H2' w'.heap → RepE g' e v → (∀ x, G' = x :: G → EntryOk x (a.put o.dst v).tmps) → next (a.put o.dst v) w') :
    if Region.wanted o (yielded ops a.tmps) = true then o.wp X.P a w next Q else next (a.put o.dst undef) w := by
  have hno : ∀ (G0 : List GE), G' = G0 → G0 = G → ∀ (t : Array Value) x, G' = x :: G → EntryOk x t := fun G0 h1 h2 t x hx => by
    rw [h1, h2] at hx
    exact absurd (congrArg List.length hx) (by simp)
  have hsl : ∀ t ∈ slotsOf o, Er.find t = E.find t := fun t ht => A.sl t (slots_looks ht)
  have hl : newLoc X f o = false := by
    cases hl : newLoc X f o with
    | false => rfl
    | true =>
      have := h _ (fun _ e _ _ => Out.ok e)
      unfold stepD at this
      rw [hl] at this
      simp at this
  unfold stepD at h
  simp only [hl, Bool.false_eq_true, if_false] at h
  cases hg : o.guard with
  | none =>
    rw [hg] at h
    simp only at h
    have hG' : G = G' := by
      rcases restRun_det (Γ := Γ) (q := q) (E := E) (L := L) (H := H) hl with ⟨e1, L1, H1, _, h2⟩ | h2
      · have h1 := h _ (fun G _ _ _ => Out.ok G)
        rw [h2] at h1
        injection h1
      · have h1 := h _ (fun G _ _ _ => Out.ok G)
        rw [h2] at h1
        cases h1
    rw [if_pos (by simp [Region.wanted, hg])]
    refine restRun_do hX hΓ hq hl (run_at (fun β k => h β (fun _ e L H => k e L H)) hsl hLH) R hE hG fun g' v w' he hlk hst R' hr => ?_
    exact hn g' v w' he hlk hst R' hr (hno _ rfl hG'.symm _)
  | some p =>
    obtain ⟨j, want⟩ := p
    rw [hg] at h
    simp only at h
    cases hs : ops.toList[j]?.bind (·.dst) with
    | none =>
      rw [hs] at h
      have := h _ (fun _ e _ _ => Out.ok e)
      cases this
    | some s =>
      rw [hs] at h
      simp only at h
      have hEs : Er.find s = E.find s := A.sl s (guard_look hg hs)
      have hwy : ∀ b, E.find s = some (.val (.bool b)) → yielded ops a.tmps j = some b ∧ a.tmps[s]? = some (.bool b) := fun b hb => by
        rw [← hEs] at hb
        refine ⟨wanted_yes hE (by rw [hs]; exact hb), ?_⟩
        obtain ⟨v, hv, hr⟩ := hE _ _ hb
        cases hr; exact hv
      have hwn : E.find s = some (.val (.tup [])) → yielded ops a.tmps j = none := fun hb => wanted_no hE (by rw [hs]; simp only [Option.bind_some]; rw [hEs]; exact hb)
      -- not carried out
      have skip : e = .val undefA → L' = L → H' = H → G = G' → next (a.put o.dst undef) w := fun h1 h2 h3 h4 => by
        subst h1 h2 h3
        have h22 : L2' = L2 ∧ H2' = H2 := by
          rcases hLH with ⟨_, _, h5, h6⟩ | ⟨h5, h6, h7, h8⟩
          · exact ⟨h5, h6⟩
          · exact ⟨h7.trans h5.symm, h8.trans h6.symm⟩
        obtain ⟨rfl, rfl⟩ := h22
        exact hn g undef w (.refl g) (fun _ _ h => h) (.refl _) R (rep_undef g) (hno _ rfl h4.symm _)
      split at h
      · rename_i hqu
        by_cases hex : ∃ b, E.find s = some (.val (.bool b))
        · obtain ⟨b, hb⟩ := hex
          obtain ⟨hy, hy'⟩ := hwy b hb
          rw [hb] at h
          by_cases hbw : b = want
          · subst hbw
            have hgd : ∀ (A B : Out Ans), guardEv (some (.val (.bool b))) b A B = A := fun A B => by simp [guardEv]
            simp only [hgd] at h
            rw [if_pos (by simp [Region.wanted, hg, hy])]
            rcases restRun_det (Γ := Γ) (q := q) (E := resolveG G E s b o.op) (L := L) (H := H) hl with ⟨e1, L1, H1, hk1, h2⟩ | h2
            · have h1 := h _ (fun G e L H => Out.ok (G, e, L, H))
              rw [h2] at h1
              cases e1 with
              | val v =>
                cases h1
                -- the local blocks stay
                have hLL : L1 = L := by
                  have hdet := opEv_det (Γ := Γ) (L := L) (H := H) hqu
                  have hdet2 := opEv_det (Γ := Γ) (L := L) (H := { H with low := H.n }) hqu
                  cases q with
                  | true => exact (hk1 (.inl rfl)).1
                  | false =>
                    have h3 := h2 _ (fun _ L _ => Out.ok L)
                    rcases hdet with ⟨e2, H3, hd2⟩ | hd2
                    · have h4 : restRun X f Γ false o (resolveG G E s b o.op) L H (fun _ L _ => Out.ok L) = .ok L := hd2 _ (fun _ _ L _ => Out.ok L)
                      rw [h4] at h3; injection h3 with h3; exact h3.symm
                    · have h4 : restRun X f Γ false o (resolveG G E s b o.op) L H (fun _ L _ => Out.ok L) = .no := hd2 _ (fun _ _ L _ => Out.ok L)
                      rw [h4] at h3; cases h3
                subst hLL
                refine restRun_do hX hΓ hq hl (run_at h2 (resolve_find A s b) hLH) R (resolve_rel hE hGs hy') hG fun g' v w' he hlk hst R' hr => ?_
                exact hn g' v w' he hlk hst R' hr (hno _ rfl rfl _)
              | _ => cases h1
            · have h1 := h _ (fun _ e _ _ => Out.ok e)
              rw [h2] at h1
              cases h1
          · have hgd : ∀ (A B : Out Ans), guardEv (some (.val (.bool b))) want A B = B := fun A B => by simp [guardEv, hbw]
            simp only [hgd] at h
            rw [if_neg (by simp [Region.wanted, hg, hy, hbw])]
            have h1 := h _ (fun G e L H => Out.ok (G, e, L, H))
            cases h1
            exact skip rfl rfl rfl rfl
        · by_cases hex2 : E.find s = some (.val (.tup []))
          · rw [hex2] at h
            have hy := hwn hex2
            rw [if_neg (by simp [Region.wanted, hg, hy])]
            have h1 := h _ (fun G e L H => Out.ok (G, e, L, H))
            cases h1
            exact skip rfl rfl rfl rfl
          · exfalso
            have : guardEv (E.find s) want (restRun X f Γ q o (resolveG G E s want o.op) L H fun e _ H' => valK e H') (.ok (undefA, H)) = .no := by
              unfold guardEv
              split
              · rename_i b hb; exact absurd ⟨b, hb⟩ hex
              · rename_i hb; exact absurd hb hex2
              · rfl
            have h1 := h _ (fun _ e _ _ => Out.ok e)
            rw [this] at h1
            cases h1
      · cases hb : baseOf E o.op with
        | none =>
          rw [hb] at h
          have h1 := h _ (fun _ e _ _ => Out.ok e)
          cases h1
        | some y =>
          obtain ⟨b, jb, ob⟩ := y
          cases hdst : o.dst with
          | none =>
            rw [hb, hdst] at h
            have h1 := h _ (fun _ e _ _ => Out.ok e)
            cases h1
          | some d =>
            rw [hb, hdst] at h
            simp only at h
            split at h
            · have h1 := h _ (fun _ e _ _ => Out.ok e)
              cases h1
            · rename_i hne
              simp only [not_or] at hne
              have hbr : baseOf Er o.op = some (b, jb, ob) := (base_congr A).trans hb
              have hbase : Er.find b = some (.loc jb ob) := by
                unfold baseOf at hbr
                split at hbr
                · cases hbr
                · rename_i t ht
                  cases hlc : locOf Er t with
                  | none => rw [hlc] at hbr; cases hbr
                  | some q => obtain ⟨q1, q2⟩ := q; rw [hlc] at hbr; cases hbr; exact locOf_some hlc
              have h1 := h _ (fun G e L H => Out.ok (G, e, L, H))
              obtain ⟨j1, off1, h3, h4⟩ := baseOf_do hb h1
              split at h3
              · rename_i hjj
                subst hjj
                cases h3
                have h22 : L2' = L2 ∧ H2' = H2 := by
                  rcases hLH with ⟨_, _, h5, h6⟩ | ⟨h5, h6, h7, h8⟩
                  · exact ⟨h5, h6⟩
                  · exact ⟨h7.trans h5.symm, h8.trans h6.symm⟩
                obtain ⟨rfl, rfl⟩ := h22
                have hdo : ∀ (β : Type) (k : EV → Env → Locs → Heap → Out β), opEv X f Γ o Er L2' H2' k = k (.loc j1 off1) Er L2' H2' := by
                  intro β k
                  have h0 := opEv_congr' (X := X) (f := f) (Γ := Γ) (o := o) (L := L2') (H := H2') hsl (fun e L H => Out.ok (e, L, H))
                  rw [h4] at h0
                  rcases opEv_detA (Γ := Γ) (E := Er) (L := L2') (H := H2') hl with ⟨e1, L1, H1, _, h5⟩ | h5
                  · have h6 := h5 _ (fun e _ L H => Out.ok (e, L, H))
                    have h7 := h6.symm.trans h0
                    cases h7
                    exact h5 β k
                  · have h6 := h5 _ (fun e _ L H => Out.ok (e, L, H))
                    have h7 := h6.symm.trans h0
                    cases h7
                have hput : ∀ v i, i ≠ d → (a.put o.dst v).tmps[i]? = a.tmps[i]? := fun v i hi => put_get (by rw [hdst]; intro e; cases e; exact hi rfl)
                by_cases hw : Region.wanted o (yielded ops a.tmps) = true
                · rw [if_pos hw]
                  refine opEv_do hX hΓ hdo R hE hG fun g' v w' he hlk hst R' hE' hr => ?_
                  have hlk' : ∀ j y, g.l j = some y → g'.l j = some y := fun j y hy => hlk j y (fun h' => by rw [hl] at h'; cases h') hy
                  refine hn g' v w' he hlk' hst R' trivial fun x hx hxs => ?_
                  cases hx
                  obtain ⟨v0, b1, cb, b2, b3⟩ := hE' _ _ hbase
                  obtain ⟨cb', c1, c2⟩ := hr
                  rw [b2] at c1
                  cases c1
                  refine ⟨cb, ?_, ?_⟩
                  · simp only
                    rw [hput v b (fun e => hne.2.1 e.symm), b1, b3]
                  · simp only
                    have hdd := hd d hdst
                    rw [hdst]; simp [Act.put, hdd, c2]
                · rw [if_neg hw]
                  rw [← hdst]
                  refine hn g undef w (.refl g) (fun _ _ h => h) (.refl _) R trivial fun x hx hxs => ?_
                  cases hx
                  exfalso
                  simp only at hxs
                  rw [hput undef s (fun e => hne.1 e.symm)] at hxs
                  refine hw ?_
                  simp only [Region.wanted, hg]
                  have : yielded ops a.tmps j = some want := by
                    cases ho : ops.toList[j]? with
                    | none => rw [ho] at hs; cases hs
                    | some oj =>
                      rw [ho] at hs
                      have ho' : ops[j]? = some oj := by simpa using ho
                      have hd2 : oj.dst = some s := by simpa using hs
                      simp [yielded, ho', hd2, hxs]
                  rw [this]
                  simp
              · cases h3
end
end Go.Proofs.YtnhblghplohonaaGreatDoor.Ab
