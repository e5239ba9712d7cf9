/- The abstract machine: what its values and its heap stand for. (Relations and their laws.) -/
import Derived.Test.YtnhblghplohonaaGreatDoorAbB
import Derived.Tactics
import Derived.Laws.NewBlocks
import Derived.WalkKit
import Derived.Laws.Sem
set_option linter.unusedSimpArgs false
set_option linter.unusedVariables false
namespace Go.Proofs.YtnhblghplohonaaGreatDoor.Ab
open Go

/- ### The tree -/
theorem PT.get_one {α : Type} : ∀ (f n : Nat) (v : Option α) (m : Nat), n ≤ f → (PT.one f n v).get m = if m = n then v else none := by
  intro f
  induction f with
  | zero =>
    intro n v m h
    obtain rfl : n = 0 := by omega
    simp only [PT.one, PT.get]
    by_cases hm : m = 0
    · simp [hm]
    · simp only [hm, if_false]; split <;> rfl
  | succ f ih =>
    intro n v m h
    simp only [PT.one]
    by_cases hn : n = 0
    · subst hn
      simp only [if_true, PT.get]
      by_cases hm : m = 0
      · simp [hm]
      · simp only [hm, if_false]; split <;> rfl
    · simp only [hn, if_false]
      by_cases h1 : n % 2 = 1
      · simp only [h1, if_true, PT.get]
        by_cases hm : m = 0
        · subst hm; simp only [if_true]; rw [if_neg (by omega)]
        · simp only [hm, if_false]
          by_cases h2 : m % 2 = 1
          · simp only [h2, if_true]
            rw [ih _ _ _ (by omega)]
            by_cases e : m = n
            · subst e; simp
            · rw [if_neg e, if_neg (by omega)]
          · simp only [h2, if_false]; rw [if_neg (by omega)]
      · simp only [h1, if_false, PT.get]
        by_cases hm : m = 0
        · subst hm; simp only [if_true]; rw [if_neg (by omega)]
        · simp only [hm, if_false]
          by_cases h2 : m % 2 = 1
          · simp only [h2, if_true]; rw [if_neg (by omega)]
          · simp only [h2, if_false]
            rw [ih _ _ _ (by omega)]
            by_cases e : m = n
            · subst e; simp
            · rw [if_neg e, if_neg (by omega)]

theorem PT.get_set {α : Type} (t : PT α) : ∀ (n : Nat) (v : Option α) (m : Nat), (t.set n v).get m = if m = n then v else t.get m := by
  induction t with
  | nil => intro n v m; simp only [PT.set, PT.get_one n n v m (Nat.le_refl _), PT.get]
  | node l u r ihl ihr =>
    intro n v m
    simp only [PT.set]
    by_cases hn : n = 0
    · subst hn; simp only [if_true, PT.get]; by_cases hm : m = 0 <;> simp [hm]
    · simp only [hn, if_false]
      by_cases h1 : n % 2 = 1
      · simp only [h1, if_true, PT.get]
        by_cases hm : m = 0
        · subst hm; simp only [if_true]; rw [if_neg (by omega)]
        · simp only [hm, if_false]
          by_cases h2 : m % 2 = 1
          · simp only [h2, if_true, ihl]
            by_cases e : m = n
            · subst e; simp
            · rw [if_neg e, if_neg (by omega)]
          · simp only [h2, if_false]; rw [if_neg (by omega)]
      · simp only [h1, if_false, PT.get]
        by_cases hm : m = 0
        · subst hm; simp only [if_true]; rw [if_neg (by omega)]
        · simp only [hm, if_false]
          by_cases h2 : m % 2 = 1
          · simp only [h2, if_true]; rw [if_neg (by omega)]
          · simp only [h2, if_false, ihr]
            by_cases e : m = n
            · subst e; simp
            · rw [if_neg e, if_neg (by omega)]

theorem Heap.get_set (H : Heap) (b : Nat) (x : Blk) (c : Nat) : (H.set b x).get c = if c = b then some x else H.get c := PT.get_set _ _ _ _
theorem Heap.get_kill (H : Heap) (b c : Nat) : (H.kill b).get c = if c = b then none else H.get c := PT.get_set _ _ _ _
theorem Heap.get_alloc (H : Heap) (x : Blk) (c : Nat) : (H.alloc x).get c = if c = H.n then some x else H.get c := PT.get_set _ _ _ _

/-- The world outside is as it was. -/
structure Keep (w w' : World) : Prop where
  os : w'.os = w.os
  out : w'.output = w.output
theorem Keep.refl (w : World) : Keep w w := ⟨rfl, rfl⟩
theorem Keep.trans {a b c : World} (h : Keep a b) (h' : Keep b c) : Keep a c := ⟨h'.os.trans h.os, h'.out.trans h.out⟩

/- ### What values stand for -/

/-- The ghost: where a block of the abstract heap lies (the model's block, the first cell, the block's size); where a local block lies; whose a block of the model's is; the blocks that nobody writes; those that are not to be touched. -/
structure Gh where
  ρ : Nat → Option (Nat × Nat × Nat)
  l : Nat → Option Nat
  o : Nat → Option (Nat ⊕ Nat)
  I : Nat → Option Obj
  Fr : Nat → Option Obj

/-- A cell of a block that nobody writes. -/
def cellI (I : Nat → Option Obj) (cb off : Nat) : Option Value := match I cb with
  | some (.cells c _ _) => c[off]?
  | _ => none

inductive Rep (g : Gh) : AV → Value → Prop
  | int (k : IntKind) (n : Int) : Rep g (.int k n) (.int k n)
  | bool (b : Bool) : Rep g (.bool b) (.bool b)
  | str (l : List UInt8) : Rep g (.str l) (.string ⟨⟨l⟩⟩)
  | v {x : Value} (h : plainV x = true) : Rep g (.v x) x
  | ref {b off cb base top : Nat} (h : g.ρ b = some (cb, base, top)) : Rep g (.ref b off) (.pointer (some ⟨cb, base + off, none⟩))
  | sl {b off len sz cb base top cap : Nat} {A : Addr} (h : g.ρ b = some (cb, base, top)) (hl : len ≤ cap) (ha : 0 < cap → A = ⟨cb, base + off, none⟩ ∧ base + off + cap * sz ≤ top) :
      Rep g (.sl b off len sz) (.slice (some A) len cap)
  | isl {sz cap cb o : Nat} {xs : List AV} {A : Option Addr} (cv : Nat → Nat → Value) (hl : xs.length ≤ cap) (h0 : xs ≠ [] → A = some ⟨cb, o, none⟩)
      (hi : ∀ i j x c, xs[i]? = some x → x.cells[j]? = some c → cellI g.I cb (o + i * sz + j) = some (cv i j) ∧ (cv i j).oneCell' = true)
      (hr : ∀ i j x c, xs[i]? = some x → x.cells[j]? = some c → Rep g c (cv i j)) : Rep g (.isl sz xs) (.slice A xs.length cap)
  | iptr {cs : List AV} {cb o : Nat} (cv : Nat → Value) (hi : ∀ j c, cs[j]? = some c → cellI g.I cb (o + j) = some (cv j) ∧ (cv j).oneCell' = true)
      (hr : ∀ j c, cs[j]? = some c → Rep g c (cv j)) : Rep g (.iptr cs) (.pointer (some ⟨cb, o, none⟩))
  | agg {cs : List AV} {vs : List Value} (h1 : ∀ v ∈ vs, v.oneCell' = true) (hl : cs.length = vs.length) (hr : ∀ (j : Nat) (c : AV) (v : Value), cs[j]? = some c → vs[j]? = some v → Rep g c v) : Rep g (.agg cs) (.agg ⟨vs⟩)
  | tup {cs : List AV} {vs : List Value} (hl : cs.length = vs.length) (hr : ∀ (j : Nat) (c : AV) (v : Value), cs[j]? = some c → vs[j]? = some v → Rep g c v) : Rep g (.tup cs) (.tuple ⟨vs⟩)
  | fn {f : Fn} {a b : List AV} {va vb : List Value} (hl : a.length = va.length) (hr : ∀ (j : Nat) (c : AV) (v : Value), a[j]? = some c → va[j]? = some v → Rep g c v)
      (hl' : b.length = vb.length) (hr' : ∀ (j : Nat) (c : AV) (v : Value), b[j]? = some c → vb[j]? = some v → Rep g c v) : Rep g (.fn f a b) (.func f ⟨va⟩ ⟨vb⟩)
  | ifc {t : TypeId} {x : AV} {v : Value} (h : Rep g x v) : Rep g (.ifc t x) (.iface t v)
  | mp {b cb base top : Nat} (h : g.ρ b = some (cb, base, top)) : Rep g (.mp b) (.map (some cb))

/-- Lists of values. -/
def Reps (g : Gh) (l : List AV) (vs : List Value) : Prop := l.length = vs.length ∧ ∀ (j : Nat) (c : AV) (v : Value), l[j]? = some c → vs[j]? = some v → Rep g c v

/-- One ghost goes on to another. -/
structure Ext (g g' : Gh) : Prop where
  ρ : ∀ b x, g.ρ b = some x → g'.ρ b = some x
  I : ∀ cb x, g.I cb = some x → g'.I cb = some x
  Fr : ∀ cb x, g.Fr cb = some x → g'.Fr cb = some x
  In : ∀ cb, g.Fr cb ≠ none → g'.I cb = g.I cb

theorem Ext.refl (g : Gh) : Ext g g := ⟨fun _ _ h => h, fun _ _ h => h, fun _ _ h => h, fun _ _ => rfl⟩
theorem Ext.trans {a b c : Gh} (h : Ext a b) (h' : Ext b c) : Ext a c :=
  ⟨fun x y e => h'.ρ x y (h.ρ x y e), fun x y e => h'.I x y (h.I x y e), fun x y e => h'.Fr x y (h.Fr x y e), fun x e => by
    rw [h'.In x (fun e' => by
      cases hx : a.Fr x with
      | none => exact e hx
      | some y => rw [h.Fr x y hx] at e'; cases e'), h.In x e]⟩

theorem cellI_mono {I I' : Nat → Option Obj} (h : ∀ cb x, I cb = some x → I' cb = some x) {cb off : Nat} {v : Value} (hc : cellI I cb off = some v) : cellI I' cb off = some v := by
  unfold cellI at hc ⊢
  cases hx : I cb with
  | none => rw [hx] at hc; cases hc
  | some y => rw [hx] at hc; rw [h _ _ hx]; exact hc

theorem Rep.mono' {g g' : Gh} (hρ : ∀ b x, g.ρ b = some x → g'.ρ b = some x) (hI : ∀ cb x, g.I cb = some x → g'.I cb = some x) {a : AV} {v : Value} (h : Rep g a v) : Rep g' a v := by
  induction h with
  | int k n => exact .int k n
  | bool b => exact .bool b
  | str l => exact .str l
  | v h => exact .v h
  | ref h => exact .ref (hρ _ _ h)
  | sl h hl ha => exact .sl (hρ _ _ h) hl ha
  | isl cv hl h0 hi hr ih => exact .isl cv hl h0 (fun i j x c h1 h2 => ⟨cellI_mono hI (hi i j x c h1 h2).1, (hi i j x c h1 h2).2⟩) ih
  | iptr cv hi hr ih => exact .iptr cv (fun j c h => ⟨cellI_mono hI (hi j c h).1, (hi j c h).2⟩) ih
  | agg h1 hl hr ih => exact .agg h1 hl ih
  | tup hl hr ih => exact .tup hl ih
  | fn hl hr hl' hr' ih ih' => exact .fn hl ih hl' ih'
  | ifc h ih => exact .ifc ih
  | mp h => exact .mp (hρ _ _ h)
theorem Rep.mono {g g' : Gh} (e : Ext g g') {a : AV} {v : Value} (h : Rep g a v) : Rep g' a v := h.mono' e.ρ e.I
theorem Reps.mono {g g' : Gh} (e : Ext g g') {a : List AV} {v : List Value} (h : Reps g a v) : Reps g' a v := ⟨h.1, fun j c x h1 h2 => (h.2 j c x h1 h2).mono e⟩

theorem Reps.nil (g : Gh) : Reps g [] [] := ⟨rfl, fun j c v h => by simp at h⟩
theorem Reps.cons {g : Gh} {a : AV} {v : Value} {l : List AV} {vs : List Value} (h : Rep g a v) (hs : Reps g l vs) : Reps g (a :: l) (v :: vs) :=
  ⟨by simp [hs.1], fun j c x h1 h2 => by
    cases j with
    | zero => simp at h1 h2; subst h1; subst h2; exact h
    | succ j => simp at h1 h2; exact hs.2 j c x h1 h2⟩
theorem Reps.append {g : Gh} {a b : List AV} {va vb : List Value} (h : Reps g a va) (h' : Reps g b vb) : Reps g (a ++ b) (va ++ vb) :=
  ⟨by simp [h.1, h'.1], fun j c x h1 h2 => by
    by_cases hj : j < a.length
    · rw [List.getElem?_append_left hj] at h1
      rw [List.getElem?_append_left (by rw [← h.1]; exact hj)] at h2
      exact h.2 j c x h1 h2
    · rw [List.getElem?_append_right (by omega)] at h1
      rw [List.getElem?_append_right (by rw [← h.1]; omega), ← h.1] at h2
      exact h'.2 _ c x h1 h2⟩
theorem Reps.get {g : Gh} {l : List AV} {vs : List Value} (h : Reps g l vs) {j : Nat} {c : AV} (hc : l[j]? = some c) : ∃ v, vs[j]? = some v ∧ Rep g c v := by
  have hj : j < vs.length := by
    rw [← h.1]; exact (List.getElem?_eq_some_iff.1 hc).1
  exact ⟨vs[j], List.getElem?_eq_getElem hj, h.2 j c _ hc (List.getElem?_eq_getElem hj)⟩
theorem Reps.drop {g : Gh} {l : List AV} {vs : List Value} (h : Reps g l vs) (n : Nat) : Reps g (l.drop n) (vs.drop n) :=
  ⟨by simp [h.1], fun j c v h1 h2 => by rw [List.getElem?_drop] at h1 h2; exact h.2 _ c v h1 h2⟩
theorem Reps.take {g : Gh} {l : List AV} {vs : List Value} (h : Reps g l vs) (n : Nat) : Reps g (l.take n) (vs.take n) :=
  ⟨by simp [h.1], fun j c v h1 h2 => by
    rw [List.getElem?_take] at h1 h2
    split at h1
    · rename_i hlt; rw [if_pos hlt] at h2; exact h.2 _ c v h1 h2
    · cases h1⟩
theorem Reps.one {g : Gh} {a : AV} {v : Value} (h : Rep g a v) : Reps g [a] [v] := .cons h (.nil g)

/-- A value and its cells. -/
theorem Rep.cells {g : Gh} {a : AV} {v : Value} (h : Rep g a v) : Reps g a.cells v.cells.toList := by
  cases h with
  | agg h1 hl hr => exact ⟨hl, hr⟩
  | v hp => cases v <;> first | (simp [plainV] at hp; done) | exact .one (.v hp)
  | int k n => exact .one (.int k n)
  | bool b => exact .one (.bool b)
  | str l => exact .one (.str l)
  | ref h => exact .one (.ref h)
  | sl h hl ha => exact .one (.sl h hl ha)
  | isl cv hl h0 hi hr => exact .one (.isl cv hl h0 hi hr)
  | iptr cv hi hr => exact .one (.iptr cv hi hr)
  | tup hl hr => exact .one (.tup hl hr)
  | fn hl hr hl' hr' => exact .one (.fn hl hr hl' hr')
  | ifc h => exact .one (.ifc h)
  | mp h => exact .one (.mp h)

theorem Rep.cells_one {g : Gh} {a : AV} {v : Value} (h : Rep g a v) (ho : a.one = true) : ∀ u ∈ v.cells.toList, u.oneCell' = true := by
  cases h with
  | agg h1 hl hr => exact h1
  | v hp => cases v <;> first | (simp [plainV] at hp; done) | (intro u hu; simp [Value.cells] at hu; subst hu; rfl)
  | tup hl hr => cases ho
  | _ => intro u hu; simp [Value.cells] at hu; subst hu; rfl
/-- What is one cell is no aggregate. -/
theorem Rep.cells_self {g : Gh} {a : AV} {v : Value} (h : Rep g a v) (ho : v.oneCell' = true) : a.cells = [a] ∧ v.cells = #[v] ∧ a.one = true := by
  cases h with
  | agg => cases ho
  | tup => cases ho
  | v hp => exact ⟨rfl, (by cases v <;> first | rfl | (cases ho)), rfl⟩
  | _ => exact ⟨rfl, rfl, rfl⟩

/- ### What the heap stands for -/
/-- A row of cells that may be written. -/
def RowAt (h : Array Obj) (cb : Nat) (arr : Array Value) : Prop := ∃ (e : TypeId) (fz : Nat × Nat), h[cb]? = some (.cells arr e fz) ∧ ∀ i, i ≤ arr.size → ¬ (fz.1 ≤ i ∧ i < fz.2)
def BlkOk (g : Gh) (h : Array Obj) (cb base top : Nat) : Blk → Prop
  | .cells _ cs => ∃ arr : Array Value, RowAt h cb arr ∧ arr.size = top ∧ base + cs.length ≤ top ∧ ∀ i c, cs[i]? = some c → ∃ v, arr[base + i]? = some v ∧ Rep g c v ∧ v.oneCell' = true
  | .map kvs => ∃ (es : Array MapEntry) (clock : Nat), h[cb]? = some (.map es clock) ∧ es.size = kvs.length ∧ ∀ (i : Nat) (p : AV × AV), kvs[i]? = some p → ∃ e : MapEntry, es[i]? = some e ∧ Rep g p.1 e.key ∧ Rep g p.2 e.val

structure Rel (g : Gh) (L : Locs) (H : Heap) (h : Array Obj) : Prop where
  fr : ∀ cb x, g.Fr cb = some x → h[cb]? = some x ∧ g.o cb = none
  im : ∀ cb x, g.I cb = some x → g.Fr cb = some x
  dom : ∀ b x, g.ρ b = some x → b < H.n
  blk : ∀ b x, H.get b = some x → ∃ cb base top, g.ρ b = some (cb, base, top) ∧ g.o cb = some (.inl b) ∧ BlkOk g h cb base top x
  loc : ∀ j cs, L.find j = some cs → ∃ cb, ∃ arr : Array Value, g.l j = some cb ∧ g.o cb = some (.inr j) ∧ RowAt h cb arr ∧ Reps g cs arr.toList ∧ ∀ v ∈ arr.toList, v.oneCell' = true
  own : ∀ cb x, g.o cb = some x → cb < h.size

/-- What a slot stands for. -/
def RepE (g : Gh) : EV → Value → Prop
  | .val a, v => Rep g a v
  | .loc j off, v => ∃ cb, g.l j = some cb ∧ v = .pointer (some ⟨cb, off, none⟩)
  | .dead, _ => True

def RelE (g : Gh) (E : Env) (tmps : Array Value) : Prop := ∀ i e, E.find i = some e → ∃ v, tmps[i]? = some v ∧ RepE g e v

theorem find_cons (i j : Nat) (x : EV) (E : Env) : Env.find ((i, x) :: E) j = if i = j then some x else E.find j := by
  simp only [Env.find]; by_cases h : i = j <;> simp [h]

theorem RelE.put {g : Gh} {E : Env} {a : Act} (hE : RelE g E a.tmps) {dst : Option Nat} {e : EV} {v : Value} (hd : ∀ d, dst = some d → d < a.tmps.size) (hv : RepE g e v) :
    RelE g (E.put dst e) (a.put dst v).tmps := by
  cases dst with
  | none => exact hE
  | some d =>
    intro i x hx
    simp only [Env.put, find_cons] at hx
    have hlt := hd d rfl
    simp only [Act.put]
    by_cases hi : d = i
    · subst hi
      simp only [if_true] at hx
      cases hx
      exact ⟨v, by simp [hlt], hv⟩
    · rw [if_neg hi] at hx
      obtain ⟨u, hu, hr⟩ := hE i x hx
      exact ⟨u, by rw [Array.getElem?_setIfInBounds]; rw [if_neg hi]; exact hu, hr⟩

theorem put_size (a : Act) (dst : Option Nat) (v : Value) : (a.put dst v).tmps.size = a.tmps.size := by
  cases dst <;> simp [Act.put]
theorem put_defers (a : Act) (dst : Option Nat) (v : Value) : (a.put dst v).defers = a.defers := by
  cases dst <;> simp [Act.put]

theorem RepE.mono {g g' : Gh} (e : Ext g g') (hl : ∀ j x, g.l j = some x → g'.l j = some x) {x : EV} {v : Value} (h : RepE g x v) : RepE g' x v := by
  cases x with
  | val a => exact Rep.mono e h
  | loc j off => obtain ⟨cb, h1, h2⟩ := h; exact ⟨cb, hl _ _ h1, h2⟩
  | dead => trivial
theorem RelE.mono {g g' : Gh} (e : Ext g g') (hl : ∀ j x, g.l j = some x → g'.l j = some x) {E : Env} {t : Array Value} (h : RelE g E t) : RelE g' E t :=
  fun i x hx => let ⟨v, h1, h2⟩ := h i x hx; ⟨v, h1, h2.mono e hl⟩

/- ### Values of the model's that are plain -/
theorem rep_ofV1 {g : Gh} {x : Value} {a : AV} (h : ofV1 x = some a) : Rep g a x := by
  cases x with
  | int k n => simp [ofV1] at h; subst h; exact .int k n
  | bool b => simp [ofV1] at h; subst h; exact .bool b
  | string s => simp [ofV1] at h; subst h; exact .str s.data.toList
  | _ => simp only [ofV1] at h; split at h <;> first | (cases h; rename_i hp; exact .v hp) | cases h
theorem rep_ofVs {g : Gh} : ∀ {l : List Value} {as : List AV}, ofVs l = some as → Reps g as l
  | [], as, h => by simp [ofVs] at h; subst h; exact .nil g
  | x :: l, as, h => by
    simp only [ofVs] at h
    cases h1 : ofV1 x with
    | none => rw [h1] at h; cases h
    | some a =>
      cases h2 : ofVs l with
      | none => rw [h1, h2] at h; cases h
      | some bs => rw [h1, h2] at h; cases h; exact .cons (rep_ofV1 h1) (rep_ofVs h2)
theorem ofV1_one {x : Value} {a : AV} (h : ofV1 x = some a) : x.oneCell' = true := by
  cases x <;> first | rfl | (simp [ofV1, plainV] at h)
theorem ofVs_one : ∀ {l : List Value} {as : List AV}, ofVs l = some as → ∀ v ∈ l, v.oneCell' = true
  | [], as, h, v, hv => by cases hv
  | x :: l, as, h, v, hv => by
    simp only [ofVs] at h
    cases h1 : ofV1 x with
    | none => rw [h1] at h; cases h
    | some a =>
      cases h2 : ofVs l with
      | none => rw [h1, h2] at h; cases h
      | some bs =>
        cases hv with
        | head => exact ofV1_one h1
        | tail _ hv => exact ofVs_one h2 v hv
theorem rep_ofV {g : Gh} {x : Value} {a : AV} (h : ofV x = some a) : Rep g a x := by
  unfold ofV at h
  split at h
  · rename_i cs
    cases h2 : ofVs cs.toList with
    | none => rw [h2] at h; cases h
    | some bs => rw [h2] at h; cases h; have := rep_ofVs (g := g) h2; exact .agg (ofVs_one h2) this.1 this.2
  · rename_i cs
    cases h2 : ofVs cs.toList with
    | none => rw [h2] at h; cases h
    | some bs => rw [h2] at h; cases h; have := rep_ofVs (g := g) h2; exact .tup this.1 this.2
  · rename_i f a b
    split at h
    · rename_i hab
      obtain ⟨h1, h2⟩ := hab
      obtain rfl := Array.eq_empty_of_size_eq_zero h1
      obtain rfl := Array.eq_empty_of_size_eq_zero h2
      cases h; exact .fn rfl (fun j c v h => by simp at h) rfl (fun j c v h => by simp at h)
    · cases h
  · exact rep_ofV1 h

theorem toV1_rep {g : Gh} {a : AV} {v x : Value} (hr : Rep g a v) (h : toV1 a = some x) : x = v := by
  cases hr <;> simp_all [toV1]
theorem toVs_rep {g : Gh} : ∀ {l : List AV} {vs xs : List Value}, Reps g l vs → toVs l = some xs → xs = vs
  | [], vs, xs, hr, h => by
    have := hr.1; simp at this
    simp [toVs] at h; subst h
    exact (List.eq_nil_of_length_eq_zero this.symm).symm
  | a :: l, vs, xs, hr, h => by
    cases vs with
    | nil => have := hr.1; simp at this
    | cons v vs =>
      simp only [toVs] at h
      cases h1 : toV1 a with
      | none => rw [h1] at h; cases h
      | some x =>
        cases h2 : toVs l with
        | none => rw [h1, h2] at h; cases h
        | some ys =>
          rw [h1, h2] at h; cases h
          have e1 := toV1_rep (hr.2 0 a v rfl rfl) h1
          have e2 := toVs_rep (g := g) ⟨by have := hr.1; simpa using this, fun j c u hc hu => hr.2 (j + 1) c u hc hu⟩ h2
          rw [e1, e2]
theorem toV_rep {g : Gh} {a : AV} {v x : Value} (hr : Rep g a v) (h : toV a = some x) : x = v := by
  unfold toV at h
  split at h
  · rename_i cs
    cases hr with
    | agg h1 hl hrr =>
      rename_i vs
      cases h2 : toVs cs with
      | none => rw [h2] at h; cases h
      | some ys => rw [h2] at h; cases h; rw [toVs_rep (g := g) ⟨hl, hrr⟩ h2]
  · exact toV1_rep hr h

theorem peel_run {α : Type} {P : Program} (s : Sem α) {a : α} (h : peel P s = some a) (w : World) : s.run P w = .ok a w := by
  induction s with
  | pure b => simp [peel] at h; subst h; rfl
  | program k ih => simp only [peel] at h; simp only [Sem.run]; exact ih P h
  | _ => cases h

theorem Out.bind_ok {α β : Type} {x : Out α} {f : α → Out β} {r : β} (h : x.bind f = .ok r) : ∃ a, x = .ok a ∧ f a = .ok r := by
  cases x with
  | ok a => exact ⟨a, rfl, h⟩
  | no => cases h
theorem onO_ok {α β : Type} {o : Option α} {k : α → Out β} {r : β} (h : onO o k = .ok r) : ∃ a, o = some a ∧ k a = .ok r := by
  cases o with
  | none => cases h
  | some a => exact ⟨a, rfl, h⟩

end Go.Proofs.YtnhblghplohonaaGreatDoor.Ab
