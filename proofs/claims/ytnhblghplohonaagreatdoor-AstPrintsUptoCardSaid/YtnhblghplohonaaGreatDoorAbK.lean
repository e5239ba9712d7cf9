/- The abstract machine without bounds: what is answered from some bound on. -/
import Derived.Test.YtnhblghplohonaaGreatDoorAbM
set_option linter.unusedSimpArgs false
set_option linter.unusedVariables false
namespace Go.Proofs.YtnhblghplohonaaGreatDoor.Ab
open Go

/-- From some n on, 'x' answers as 'y' does (if 'y' does). -/
def Lim {β : Type} (x : Nat → Out β) (y : Out β) : Prop := ∀ r, y = .ok r → ∃ N, ∀ n, N ≤ n → x n = .ok r

section
variable {β : Type}
theorem Lim.no {x : Nat → Out β} : Lim x .no := fun r h => by cases h
theorem Lim.const (y : Out β) : Lim (fun _ => y) y := fun r h => ⟨0, fun _ _ => h⟩
theorem Lim.bind {α : Type} {x : Nat → Out α} {y : Out α} {kn : Nat → α → Out β} {k : α → Out β} (hx : Lim x y) (hk : ∀ a, Lim (fun n => kn n a) (k a)) : Lim (fun n => (x n).bind (kn n)) (y.bind k) := by
  intro r h
  obtain ⟨a, h1, h2⟩ := Out.bind_ok h
  obtain ⟨N, hN⟩ := hx a h1
  obtain ⟨M, hM⟩ := hk a r h2
  refine ⟨max N M, fun n hn => ?_⟩
  show (x n).bind (kn n) = .ok r
  rw [hN n (by omega)]
  exact hM n (by omega)
theorem Lim.bind0 {α : Type} {x : Out α} {kn : Nat → α → Out β} {k : α → Out β} (hk : ∀ a, Lim (fun n => kn n a) (k a)) : Lim (fun n => x.bind (kn n)) (x.bind k) := .bind (.const x) hk
theorem Lim.onO {α : Type} {o : Option α} {kn : Nat → α → Out β} {k : α → Out β} (hk : ∀ a, Lim (fun n => kn n a) (k a)) : Lim (fun n => onO o (kn n)) (onO o k) := by
  cases o with
  | none => exact .no
  | some a => exact hk a
theorem Lim.onE {o : Option EV} {ln : Nat → Nat → Nat → Out β} {l : Nat → Nat → Out β} {pn : Nat → AV → Out β} {p : AV → Out β} (hl : ∀ i j, Lim (fun n => ln n i j) (l i j)) (hp : ∀ a, Lim (fun n => pn n a) (p a)) :
    Lim (fun n => onE o (ln n) (pn n)) (onE o l p) := by
  cases o with
  | none => exact .no
  | some e => cases e with
    | loc i j => exact hl i j
    | val a => exact hp a
    | dead => exact .no
theorem Lim.ite {c : Prop} [Decidable c] {an bn : Nat → Out β} {a b : Out β} (ha : Lim an a) (hb : Lim bn b) : Lim (fun n => if c then an n else bn n) (if c then a else b) := by
  by_cases h : c
  · simp only [if_pos h]; exact ha
  · simp only [if_neg h]; exact hb
theorem Lim.guard {g : Option EV} {w : Bool} {an bn : Nat → Out β} {a b : Out β} (ha : Lim an a) (hb : Lim bn b) : Lim (fun n => guardEv g w (an n) (bn n)) (guardEv g w a b) := by
  unfold guardEv
  split
  · exact .ite ha hb
  · exact hb
  · exact .no
theorem Lim.cond {c : AV} {an bn : Nat → Out β} {a b : Out β} (ha : Lim an a) (hb : Lim bn b) : Lim (fun n => condEv c (an n) (bn n)) (condEv c a b) := by
  unfold condEv
  split
  · exact ha
  · exact hb
  · exact .no

def LimΓ (Γn : Nat → CallsT) (Γ : CallsT) : Prop := ∀ f as H, Lim (fun n => Γn n f as H) (Γ f as H)
def LimL (ln : Nat → LoopT β) (l : LoopT β) : Prop := ∀ (Bn : Nat → LS → (LS → Out β) → Out β) (B : LS → (LS → Out β) → Out β),
  (∀ s (kn : Nat → LS → Out β) (k : LS → Out β), (∀ s', Lim (fun n => kn n s') (k s')) → Lim (fun n => Bn n s (kn n)) (B s k)) → ∀ s, Lim (fun n => ln n (Bn n) s) (l B s)

variable {X : Ctx} {f : Nat} {Γn : Nat → CallsT} {Γ : CallsT}

theorem callV_lim (hΓ : LimΓ Γn Γ) {fv : AV} {args : List AV} {H : Heap} {kn : Nat → AV → Heap → Out β} {k : AV → Heap → Out β} (hk : ∀ v H, Lim (fun n => kn n v H) (k v H)) : Lim (fun n => callV (Γn n) fv args H (kn n)) (callV Γ fv args H k) := by
  unfold callV
  exact .onO fun q => .bind (hΓ _ _ _) fun r => hk _ _
theorem builtinEv_lim {b : Builtin} {ts : List TypeId} {args : List AV} {H : Heap} {kn : Nat → AV → Heap → Out β} {k : AV → Heap → Out β} (hk : ∀ v H, Lim (fun n => kn n v H) (k v H)) :
    Lim (fun n => builtinEv X b ts args H (kn n)) (builtinEv X b ts args H k) := by
  cases b <;> simp only [builtinEv] <;> repeat' first
    | exact Lim.no
    | exact hk _ _
    | refine Lim.onO fun _ => ?_
    | refine Lim.bind0 fun _ => ?_
    | refine Lim.ite ?_ ?_
theorem newEv_lim {t : TypeId} {z : AV} {dst : Option Nat} {E : Env} {L : Locs} {H : Heap} {kn : Nat → EV → Env → Locs → Heap → Out β} {k : EV → Env → Locs → Heap → Out β} (hk : ∀ e E L H, Lim (fun n => kn n e E L H) (k e E L H)) :
    Lim (fun n => newEv X f t z dst E L H (kn n)) (newEv X f t z dst E L H k) := by
  unfold newEv
  exact .bind0 fun _ => .onO fun _ => .ite (hk _ _ _ _) (hk _ _ _ _)

theorem opEv_lim (hΓ : LimΓ Γn Γ) {o : Oper} {E : Env} {L : Locs} {H : Heap} {kn : Nat → EV → Env → Locs → Heap → Out β} {k : EV → Env → Locs → Heap → Out β} (hk : ∀ e E L H, Lim (fun n => kn n e E L H) (k e E L H)) :
    Lim (fun n => opEv X f (Γn n) o E L H (kn n)) (opEv X f Γ o E L H k) := by
  unfold opEv
  cases o.op with
  | move x => cases x <;> repeat' first | exact hk _ _ _ _ | refine Lim.onO fun _ => ?_
  | assign x => cases x <;> repeat' first | exact hk _ _ _ _ | refine Lim.onO fun _ => ?_
  | build t parts =>
    simp only
    refine .onO fun ti => .onO fun _ => .onO fun _ => .bind0 fun _ => ?_
    cases ti.k <;> repeat' first | exact Lim.no | exact hk _ _ _ _ | refine Lim.onO fun _ => ?_ | refine Lim.bind0 fun _ => ?_
  | load t a =>
    simp only
    refine .onO fun ti => ?_
    cases tmpOf a <;> simp only <;> repeat' first | exact Lim.no | exact hk _ _ _ _ | refine Lim.onO fun _ => ?_ | refine Lim.bind0 fun _ => ?_ | refine Lim.onE (fun _ _ => ?_) (fun _ => ?_)
  | store t a x =>
    simp only
    refine .onO fun ti => .onO fun _ => ?_
    cases tmpOf a <;> simp only <;> repeat' first | exact Lim.no | exact hk _ _ _ _ | refine Lim.onO fun _ => ?_ | refine Lim.bind0 fun _ => ?_ | refine Lim.onE (fun _ _ => ?_) (fun _ => ?_)
  | nilCheck x =>
    simp only
    cases tmpOf x <;> simp only <;> repeat' first | exact Lim.no | exact hk _ _ _ _ | refine Lim.onO fun _ => ?_ | refine Lim.bind0 fun _ => ?_ | refine Lim.onE (fun _ _ => ?_) (fun _ => ?_)
  | makeMap t res =>
    cases res <;> simp only <;> repeat' first | exact Lim.no | exact hk _ _ _ _ | refine Lim.onO fun _ => ?_
  | slice t x lo hi mx =>
    cases mx <;> simp only <;> repeat' first | exact Lim.no | exact hk _ _ _ _ | refine Lim.onO fun _ => ?_ | refine Lim.bind0 fun _ => ?_ | refine Lim.ite ?_ ?_
  | fieldAddr s x fd =>
    simp only
    refine .onO fun ti => .onO fun _ => .onO fun fl => .ite .no ?_
    cases tmpOf x <;> simp only <;> repeat' first | exact Lim.no | exact hk _ _ _ _ | refine Lim.onO fun _ => ?_ | refine Lim.bind0 fun _ => ?_ | refine Lim.onE (fun _ _ => ?_) (fun _ => ?_)
  | indexAddr t x ix =>
    simp only
    refine .onO fun i => .onO fun ti => ?_
    cases ti.k with
    | array len e =>
      simp only
      refine .onO fun te => ?_
      cases tmpOf x <;> simp only <;> repeat' first | exact Lim.no | exact hk _ _ _ _ | refine Lim.onO fun _ => ?_ | refine Lim.bind0 fun _ => ?_ | refine Lim.onE (fun _ _ => ?_) (fun _ => ?_)
    | slice e => simp only; repeat' first | exact Lim.no | exact hk _ _ _ _ | refine Lim.onO fun _ => ?_ | refine Lim.bind0 fun _ => ?_
    | _ => exact .no
  | call c =>
    simp only
    refine .onO fun as => ?_
    cases Callee.builtinO c.callee with
    | some b => exact builtinEv_lim fun _ _ => hk _ _ _ _
    | none => exact .onO fun _ => .onO fun _ => callV_lim hΓ fun _ _ => hk _ _ _ _
  | _ =>
    simp only
    repeat' first
      | exact Lim.no
      | exact hk _ _ _ _
      | refine newEv_lim fun _ _ _ _ => ?_
      | refine Lim.onO fun _ => ?_
      | refine Lim.bind0 fun _ => ?_
      | refine Lim.ite ?_ ?_

theorem evOps_lim (hΓ : LimΓ Γn Γ) {all : List Oper} : ∀ {rest : List Oper} {G : List GE} {E : Env} {L : Locs} {H : Heap} {kn : Nat → Env → Locs → Heap → Out β} {k : Env → Locs → Heap → Out β} (_ : ∀ E L H, Lim (fun n => kn n E L H) (k E L H)),
    Lim (fun n => evOps X f (Γn n) all rest G E L H (kn n)) (evOps X f Γ all rest G E L H k)
  | [], G, E, L, H, kn, k, hk => hk E L H
  | o :: r, G, E, L, H, kn, k, hk => by
    simp only [evOps]
    cases o.guard with
    | none => exact opEv_lim hΓ fun _ _ _ _ => evOps_lim hΓ hk
    | some q =>
      simp only
      cases all[q.1]?.bind (·.dst) with
      | none => exact .no
      | some s =>
        simp only
        refine .ite (.bind (.guard (opEv_lim hΓ fun _ _ _ _ => .const _) (.const _)) fun _ => evOps_lim hΓ hk) ?_
        cases baseOf E o.op with
        | none => exact .guard (opEv_lim hΓ fun _ _ _ _ => evOps_lim hΓ hk) (evOps_lim hΓ hk)
        | some b =>
          cases o.dst with
          | none => exact .guard (opEv_lim hΓ fun _ _ _ _ => evOps_lim hΓ hk) (evOps_lim hΓ hk)
          | some d =>
            simp only
            refine .ite .no (opEv_lim hΓ fun e _ _ _ => ?_)
            cases e with
            | loc j off => exact .ite (evOps_lim hΓ hk) .no
            | _ => exact .no

theorem restRun_lim (hΓ : LimΓ Γn Γ) {q : Bool} {o : Oper} {E : Env} {L : Locs} {H : Heap} {kn : Nat → EV → Locs → Heap → Out β} {k : EV → Locs → Heap → Out β} (hk : ∀ e L H, Lim (fun n => kn n e L H) (k e L H)) :
    Lim (fun n => restRun X f (Γn n) q o E L H (kn n)) (restRun X f Γ q o E L H k) := by
  unfold restRun
  exact .ite (opEv_lim hΓ fun _ _ _ _ => .ite (hk _ _ _) .no) (opEv_lim hΓ fun _ _ _ _ => hk _ _ _)
theorem stepD_lim (hΓ : LimΓ Γn Γ) {all : List Oper} {q : Bool} {o : Oper} {G : List GE} {E : Env} {L : Locs} {H : Heap} {kn : Nat → List GE → EV → Locs → Heap → Out β} {k : List GE → EV → Locs → Heap → Out β} (hk : ∀ G e L H, Lim (fun n => kn n G e L H) (k G e L H)) :
    Lim (fun n => stepD X f (Γn n) all q o G E L H (kn n)) (stepD X f Γ all q o G E L H k) := by
  unfold stepD
  refine .ite .no ?_
  cases o.guard with
  | none => exact restRun_lim hΓ fun _ _ _ => hk _ _ _ _
  | some p =>
    simp only
    cases all[p.1]?.bind (·.dst) with
    | none => exact .no
    | some s =>
      simp only
      refine .ite (.bind (.guard (restRun_lim hΓ fun _ _ _ => .const _) (.const _)) fun _ => hk _ _ _ _) ?_
      cases baseOf E o.op with
      | none => exact .no
      | some b =>
        cases o.dst with
        | none => exact .no
        | some d =>
          simp only
          refine .ite .no (opEv_lim hΓ fun e _ _ _ => ?_)
          cases e with
          | loc j off => exact .ite (hk _ _ _ _) .no
          | _ => exact .no
theorem evDr_lim (hΓ : LimΓ Γn Γ) {all : List Oper} {T : List (List Nat)} : ∀ {rest : List Oper} {i : Nat} {G : List GE} {E : Env} {L : Locs} {H : Heap} {kn : Nat → Env → Locs → Heap → Out β} {k : Env → Locs → Heap → Out β} (_ : ∀ E L H, Lim (fun n => kn n E L H) (k E L H)),
    Lim (fun n => evDr X f (Γn n) all T i rest G E L H (kn n)) (evDr X f Γ all T i rest G E L H k)
  | [], i, G, E, L, H, kn, k, hk => hk E L H
  | o :: r, i, G, E, L, H, kn, k, hk => by
    simp only [evDr]
    exact stepD_lim hΓ fun _ _ _ _ => evDr_lim hΓ hk

theorem ev_lim (hΓ : LimΓ Γn Γ) {ln : Nat → LoopT β} {l : LoopT β} (hl : LimL ln l) : ∀ {c : Code} {E : Env} {L : Locs} {H : Heap} {kn : Nat → Ex → Env → Locs → Heap → Out β} {k : Ex → Env → Locs → Heap → Out β} (_ : ∀ e E L H, Lim (fun n => kn n e E L H) (k e E L H)),
    Lim (fun n => ev X f (Γn n) (ln n) c E L H (kn n)) (ev X f Γ l c E L H k) := by
  intro c
  induction c with
  | skip => intro E L H kn k hk; exact hk _ _ _ _
  | exit id => intro E L H kn k hk; exact hk _ _ _ _
  | ret => intro E L H kn k hk; exact hk _ _ _ _
  | region id ops draw =>
    intro E L H kn k hk
    simp only [ev]
    refine .ite ?_ (evOps_lim hΓ fun _ _ _ => hk _ _ _ _)
    exact .ite (evDr_lim hΓ fun _ _ _ => hk _ _ _ _) .no
  | seq a b iha ihb =>
    intro E L H kn k hk
    simp only [ev]
    cases X.join f (loopKey b) with
    | none =>
      refine iha fun e E L H => ?_
      cases e with
      | normal => exact ihb hk
      | exit id => exact hk _ _ _ _
      | ret => exact hk _ _ _ _
    | some ls =>
      simp only [jn]
      refine iha fun e E' L' H' => ?_
      cases e with
      | normal =>
        simp only
        refine .ite ?_ .no
        cases pack E' ls with
        | none => exact .no
        | some vs => exact ihb hk
      | exit id => exact hk _ _ _ _
      | ret => exact hk _ _ _ _
  | cond c a b iha ihb =>
    intro E L H kn k hk
    simp only [ev]
    exact .onO fun _ => .cond (iha hk) (ihb hk)
  | block id c ih =>
    intro E L H kn k hk
    simp only [ev]
    refine ih fun e E L H => ?_
    cases e with
    | normal => exact hk _ _ _ _
    | exit id' => exact .ite (hk _ _ _ _) (hk _ _ _ _)
    | ret => exact hk _ _ _ _
  | loop c ih =>
    intro E L H kn k hk
    simp only [ev]
    cases sameLocs E (locEntries E) with
    | false => exact .no
    | true =>
      cases pack E (X.live f (loopKey c)) with
      | none => exact .no
      | some vs =>
        simp only
        refine hl _ _ (fun s jn j hj => ih fun e E' L' H' => ?_) _
        cases e with
        | normal =>
          simp only
          refine .ite ?_ .no
          cases pack E' (X.live f (loopKey c)) with
          | none => exact .no
          | some vs' => exact hj _
        | exit id => exact hk _ _ _ _
        | ret => exact hk _ _ _ _
  | _ => intro E L H kn k hk; simp only [ev]; exact .no

theorem runF_lim {ln : Nat → LoopT Ans} {l : LoopT Ans} (hl : LimL ln l) (hΓ : LimΓ Γn Γ) {g : Nat} {args : List AV} {H : Heap} : Lim (fun n => runF X (ln n) (Γn n) g args H) (runF X l Γ g args H) := by
  unfold runF
  cases X.prim g with
  | some p => exact .const _
  | none =>
    simp only
    cases X.F g with
    | none => exact .no
    | some fn =>
      simp only
      cases fn.body with
      | none => exact .no
      | some c =>
        simp only
        refine .ite .no (ev_lim hΓ hl fun e E L H' => ?_)
        exact .const _
end

/- ### Loops and calls without bounds -/
open Classical in
noncomputable def loopW {β : Type} : LoopT β := fun B s => if h : ∃ r, ∃ N, ∀ n, N ≤ n → loopN n B s = .ok r then .ok h.choose else .no
open Classical in
noncomputable def callW (X : Ctx) : CallsT := fun f as H => if h : ∃ r, ∃ N, ∀ n, N ≤ n → callN X n f as H = .ok r then .ok h.choose else .no

theorem loopW_of {β : Type} {B : LS → (LS → Out β) → Out β} {s : LS} {r : β} {N : Nat} (h : ∀ n, N ≤ n → loopN n B s = .ok r) : loopW B s = .ok r := by
  have hx : ∃ r, ∃ N, ∀ n, N ≤ n → loopN n B s = .ok r := ⟨r, N, h⟩
  unfold loopW
  rw [dif_pos hx]
  obtain ⟨M, hM⟩ := hx.choose_spec
  have h1 := h (max N M) (by omega)
  rw [hM (max N M) (by omega)] at h1
  exact h1
theorem loopW_ok {β : Type} {B : LS → (LS → Out β) → Out β} {s : LS} {r : β} (h : loopW B s = .ok r) : ∃ N, ∀ n, N ≤ n → loopN n B s = .ok r := by
  unfold loopW at h
  split at h
  · rename_i hx
    have hs := hx.choose_spec
    injection h with h
    rw [h] at hs
    exact hs
  · cases h
theorem callW_of' {X : Ctx} {f : Nat} {as : List AV} {H : Heap} {r : Ans} {N : Nat} (h : ∀ n, N ≤ n → callN X n f as H = .ok r) : callW X f as H = .ok r := by
  have hx : ∃ r, ∃ N, ∀ n, N ≤ n → callN X n f as H = .ok r := ⟨r, N, h⟩
  unfold callW
  rw [dif_pos hx]
  obtain ⟨M, hM⟩ := hx.choose_spec
  have h1 := h (max N M) (by omega)
  rw [hM (max N M) (by omega)] at h1
  exact h1
theorem callW_ok {X : Ctx} {f : Nat} {as : List AV} {H : Heap} {r : Ans} (h : callW X f as H = .ok r) : ∃ N, ∀ n, N ≤ n → callN X n f as H = .ok r := by
  unfold callW at h
  split at h
  · rename_i hx
    have hs := hx.choose_spec
    injection h with h
    rw [h] at hs
    exact hs
  · cases h
theorem loopW_lim {β : Type} : LimL (β := β) loopN loopW := by
  intro Bn B hB s r h
  obtain ⟨m, hm⟩ := loopW_ok h
  have key : ∀ (q : Nat) (s : LS) (r : β), loopN q B s = .ok r → ∃ N, ∀ n, N ≤ n → ∀ m, q ≤ m → loopN m (Bn n) s = .ok r := by
    intro q
    induction q with
    | zero => intro s r h; cases h
    | succ q ih =>
      intro s r h
      classical
      let mf : Nat → Nat := fun n => if h : ∃ m, q ≤ m ∧ loopN (m + 1) (Bn n) s ≠ .ok r then h.choose else q
      have hmf : ∀ n, q ≤ mf n := fun n => by
        show q ≤ (if h : ∃ m, q ≤ m ∧ loopN (m + 1) (Bn n) s ≠ .ok r then h.choose else q)
        split
        · rename_i hx; exact hx.choose_spec.1
        · exact Nat.le_refl _
      obtain ⟨N, hN⟩ := hB s (fun n => loopN (mf n) (Bn n)) (loopN q B) (fun s' r' h' => by
        obtain ⟨N, hN⟩ := ih s' r' h'
        exact ⟨N, fun n hn => hN n hn _ (hmf n)⟩) r h
      refine ⟨N, fun n hn m hm => ?_⟩
      obtain ⟨j, rfl⟩ : ∃ j, m = j + 1 := ⟨m - 1, by omega⟩
      refine Classical.byContradiction fun hne => ?_
      have hx : ∃ m, q ≤ m ∧ loopN (m + 1) (Bn n) s ≠ .ok r := ⟨j, by omega, hne⟩
      have h1 : mf n = hx.choose := dif_pos hx
      have h2 := hN n hn
      have h3 := hx.choose_spec.2
      rw [← h1] at h3
      exact h3 h2
  obtain ⟨N, hN⟩ := key m s r (hm m (Nat.le_refl _))
  exact ⟨max N m, fun n hn => hN n (by omega) n (by omega)⟩

theorem callW_lim (X : Ctx) : LimΓ (callN X) (callW X) := fun _ _ _ _ h => callW_ok h

/-- A call, by the function's body. -/
theorem callW_of {X : Ctx} {f : Nat} {as : List AV} {H : Heap} {r : Ans} (h : runF X loopW (callW X) f as H = .ok r) : callW X f as H = .ok r := by
  obtain ⟨N, hN⟩ := runF_lim (X := X) (g := f) (args := as) (H := H) loopW_lim (callW_lim X) r h
  refine callW_of' (N := N + 1) fun n hn => ?_
  obtain ⟨j, rfl⟩ : ∃ j, n = j + 1 := ⟨n - 1, by omega⟩
  exact hN j (by omega)
/-- A loop: one round more; its end. -/
theorem loopW_step {β : Type} {B : LS → (LS → Out β) → Out β} {s s' : LS} {r : β} (h : ∀ k, B s k = k s') (h' : loopW B s' = .ok r) : loopW B s = .ok r := by
  obtain ⟨N, hN⟩ := loopW_ok h'
  refine loopW_of (N := N + 1) fun n hn => ?_
  obtain ⟨j, rfl⟩ : ∃ j, n = j + 1 := ⟨n - 1, by omega⟩
  show B s (loopN j B) = .ok r
  rw [h]
  exact hN j (by omega)
theorem loopW_done {β : Type} {B : LS → (LS → Out β) → Out β} {s : LS} {r : β} (h : ∀ k, B s k = .ok r) : loopW B s = .ok r :=
  loopW_of (N := 1) fun n hn => by
    obtain ⟨j, rfl⟩ : ∃ j, n = j + 1 := ⟨n - 1, by omega⟩
    exact h _
/-- What calls without bounds answer, the model's do. -/
theorem callW_good {X : Ctx} (hX : X.Ok) : Good X (callW X) := fun f => ⟨fun args H v H' h => by
  obtain ⟨N, hN⟩ := callW_ok h
  exact (callN_good hX N f).ok args H v H' (hN N (Nat.le_refl _))⟩

/-- A function's body. -/
def runB (X : Ctx) (lp : LoopT Ans) (Γ : CallsT) (g : Nat) (fn : Func) (args : List AV) (H : Heap) : Out Ans :=
  ev X g Γ lp (fn.body.getD .skip) (envOf 0 args) [] { H with low := H.n } fun e E L H' => match e with
    | .exit _ => .no
    | _ => (resOf X E L H' fn.results.toList).bind fun vs => .ok (gcf (X.fz g) (oneOf vs) H H')
theorem runF_run {X : Ctx} {lp : LoopT Ans} {Γ : CallsT} {g : Nat} {fn : Func} {args : List AV} {H : Heap} (h : X.prim g = none) (hF : X.F g = some fn) (hb : fn.body.isSome = true) (hn : (fn.name == "runtime.NumGoroutine") = false) :
    runF X lp Γ g args H = runB X lp Γ g fn args H := by
  unfold runF runB
  simp only [h, hF]
  cases hc : fn.body with
  | none => rw [hc] at hb; cases hb
  | some c =>
    simp only [hn, Option.getD_some, Bool.false_eq_true, if_false]
    rfl

end Go.Proofs.YtnhblghplohonaaGreatDoor.Ab
