/- Buffers of bytes in the abstract heap. -/
import Derived.Test.YtnhblghplohonaaGreatDoorAbP
import Derived.Test.YtnhblghplohonaaGreatDoorAbV1
set_option linter.unusedSimpArgs false
set_option linter.unusedVariables false
namespace Go.Proofs.YtnhblghplohonaaGreatDoor.Ab
open Go

def bytes (s : List UInt8) : List AV := s.map fun b => .int .u8 b.toNat
theorem bytes_length (s : List UInt8) : (bytes s).length = s.length := by simp [bytes]
theorem bytes_append (s t : List UInt8) : bytes (s ++ t) = bytes s ++ bytes t := by simp [bytes]
theorem bytes_cells (s : List UInt8) : (bytes s).flatMap AV.cells = bytes s := by
  induction s with
  | nil => rfl
  | cons b s ih => simp only [bytes, List.map_cons, List.flatMap_cons] at ih ⊢; rw [ih]; rfl
theorem byteOf_u8 (b : UInt8) : M.byteOf (.int .u8 b.toNat) = some b := by simp [M.byteOf]
theorem bytesOf_bytes (s : List UInt8) : M.bytesOf (bytes s) = some s := by
  induction s with
  | nil => rfl
  | cons b s ih => simp only [bytes, List.map_cons, M.bytesOf, byteOf_u8] at ih ⊢; rw [ih]
/-- A list of bytes that is the walk's own: nil, or a block from 'lo' on. -/
def FB (lo : Nat) (H : Heap) (v : AV) (t : List UInt8) : Prop :=
  (v = nilSlice ∧ t = []) ∨ ∃ b e, v = .sl b 0 t.length 1 ∧ lo ≤ b ∧ b < H.n ∧ H.get b = some (.cells e (bytes t))
/-- A list that can be appended. -/
def Src (x : AV) (s : List UInt8) : Prop := ∀ H, M.cellsOf 1 x H = .ok (s.length, bytes s)
theorem src_str (s : List UInt8) : Src (.str s) s := fun H => rfl
theorem src_isl (s : List UInt8) : Src (.isl 1 (bytes s)) s := fun H => by
  have h1 : (bytes s).all (fun x => x.cells.length == 1) = true := by
    rw [List.all_eq_true]; intro x hx; simp only [bytes, List.mem_map] at hx; obtain ⟨b, _, rfl⟩ := hx; rfl
  simp only [M.cellsOf, bytes_cells, bytes_length, Nat.mul_one]
  rw [if_pos ⟨trivial, trivial, h1⟩]
theorem fb_cells {lo : Nat} {H : Heap} {v : AV} {t : List UInt8} (h : FB lo H v t) : M.cellsOf 1 v H = .ok (t.length, bytes t) := by
  rcases h with ⟨rfl, rfl⟩ | ⟨b, e, rfl, _, _, hg⟩
  · rfl
  · simp only [M.cellsOf, Heap.cells, hg, bytes_length, Nat.mul_one, Nat.zero_add, Nat.le_refl, and_self, if_true, List.drop_zero]
    rw [List.take_of_length_le (by rw [bytes_length]; omega)]
theorem fb_append {lo : Nat} {H : Heap} {v x : AV} {t s : List UInt8} (h : FB lo H v t) (hx : Src x s) (hlo : lo ≤ H.n) (hlow : lo ≤ H.low) (hc : t.length + s.length ≤ 1099511627776) :
    ∃ v' H', M.append 5 1 1 v x H = .ok (v', H') ∧ FB lo H' v' (t ++ s) ∧ lo ≤ H'.low ∧ H.n ≤ H'.n ∧ v'.cells = [v'] ∧ v'.one = true ∧
      (∀ b, (∀ n, v ≠ .sl b 0 n 1) → b < H.n → H'.get b = H.get b) ∧ (∀ n b, v' = .sl b 0 n 1 → H.n ≤ b) ∧ H'.low ≤ H.low := by
  have hcx := hx H
  have hcv := fb_cells h
  have hm : (t.length + s.length) * 1 ≤ M.most ∧ t.length + s.length ≤ M.most := by unfold M.most; constructor <;> omega
  rcases h with ⟨rfl, rfl⟩ | ⟨b, e, rfl, hb, hbn, hg⟩
  · unfold M.append
    rw [hcx, hcv]
    simp only [Out.bind, nilSlice]
    rw [if_pos hm]
    by_cases hs : s.length = 0
    · have : s = [] := List.length_eq_zero_iff.mp hs
      subst this
      refine ⟨nilSlice, H, ?_, .inl ⟨rfl, rfl⟩, hlow, Nat.le_refl _, rfl, rfl, fun _ _ _ => rfl, fun _ _ he => by simp [nilSlice] at he, Nat.le_refl _⟩
      simp [nilSlice]
    · refine ⟨.sl H.n 0 s.length 1, H.alloc (.cells 5 (bytes s)), ?_, .inr ⟨H.n, 5, by simp, hlo, by simp [Heap.alloc], by rw [Heap.get_alloc, if_pos rfl]; simp⟩, hlow, by simp [Heap.alloc], rfl, rfl, fun c _ hc => by rw [Heap.get_alloc, if_neg (by omega)], fun n b he => by injection he with he; omega, Nat.le_refl _⟩
      rw [if_neg hs]
      simp [bytes]
  · unfold M.append
    rw [hcx, hcv]
    simp only [Out.bind]
    rw [if_pos hm]
    refine ⟨.sl H.n 0 (t.length + s.length) 1, (H.kill b).alloc (.cells 5 (bytes t ++ bytes s)), rfl, .inr ⟨H.n, 5, by simp, hlo, by simp [Heap.alloc, Heap.kill], ?_⟩, ?_, by simp [Heap.alloc, Heap.kill], rfl, rfl, fun c hc hcn => ?_, fun n b he => by injection he with he; omega, ?_⟩
    · rw [Heap.get_alloc, if_pos (show H.n = (H.kill b).n from rfl), bytes_append]
    · simp only [Heap.alloc, Heap.kill]; omega
    · rw [Heap.get_alloc, if_neg (by simp [Heap.kill]; omega), Heap.get_kill, if_neg (fun e => hc t.length (by rw [e]))]
    · simp only [Heap.alloc, Heap.kill]; omega
theorem fb_toStr {lo : Nat} {H : Heap} {v : AV} {t : List UInt8} (h : FB lo H v t) : M.toStr v H = .ok (.str t) := by
  have hc := fb_cells h
  have hn : M.isStrA v = false := by rcases h with ⟨rfl, _⟩ | ⟨b, e, rfl, _⟩ <;> rfl
  simp only [M.toStr, hn, Bool.false_eq_true, if_false, hc, bind_ok, bytesOf_bytes]
theorem fb_len {lo : Nat} {H : Heap} {v : AV} {t : List UInt8} (h : FB lo H v t) : M.len false v = .ok (.int .i64 t.length) := by
  rcases h with ⟨rfl, rfl⟩ | ⟨b, e, rfl, _⟩ <;> rfl

/-- A struct of one list of bytes, at 'p'. -/
structure Buf (lo : Nat) (H : Heap) (p : Nat) (t : List UInt8) : Prop where
  pl : lo ≤ p
  pn : p < H.n
  lw : lo ≤ H.low
  h : ∃ e v, H.get p = some (.cells e [v]) ∧ FB lo H v t ∧ (∀ n, v ≠ .sl p 0 n 1) ∧ v.cells = [v] ∧ v.one = true
theorem Buf.start {lo p : Nat} {H : Heap} {t : List UInt8} (h : Buf lo H p t) : Buf lo H.start p t :=
  ⟨h.pl, h.pn, Nat.le_of_lt (Nat.lt_of_le_of_lt h.pl h.pn), h.h⟩
theorem Buf.setLow {lo p k : Nat} {H : Heap} {t : List UInt8} (h : Buf lo H p t) (hk : lo ≤ k) : Buf lo { H with low := k } p t :=
  ⟨h.pl, h.pn, hk, h.h⟩
/-- An append, and its store. -/
theorem Buf.put {lo p : Nat} {H : Heap} {t s : List UInt8} {x : AV} (h : Buf lo H p t) (hx : Src x s) (hc : t.length + s.length ≤ 1099511627776) :
    ∃ v v' H' H'', M.load false 1 (.ref p 0) H = .ok v ∧ M.append 5 1 1 v x H = .ok (v', H') ∧ M.store 1 (.ref p 0) v' H' = .ok H'' ∧ Buf lo H'' p (t ++ s) ∧ H''.low ≤ p := by
  obtain ⟨e, v, hg, hf, hne, hc1, ho⟩ := h.h
  obtain ⟨v', H', ha, hf', hl', hn', hc', ho', hk, hb, hll⟩ := fb_append hf hx (Nat.le_of_lt (Nat.lt_of_le_of_lt h.pl h.pn)) h.lw hc
  have hgp : H'.get p = some (.cells e [v]) := by rw [hk p hne h.pn]; exact hg
  refine ⟨v, v', H', H'.set p (.cells e [v']), ?_, ha, ?_, ⟨h.pl, Nat.lt_of_lt_of_le h.pn hn', ?_, e, v', ?_, ?_, ?_, hc', ho'⟩, ?_⟩
  · simp only [M.load, Heap.cells, hg, M.ldc]; rfl
  · simp only [M.store, hgp, M.stc, ho', hc', List.length_cons, List.length_nil]
    simp [M.over]
  · simp only [Heap.set]; have := h.pl; omega
  · rw [Heap.get_set, if_pos rfl]
  · rcases hf' with ⟨rfl, h0⟩ | ⟨b, e', rfl, h1, h2, h3⟩
    · exact .inl ⟨rfl, h0⟩
    · have hge := hb _ b rfl
      exact .inr ⟨b, e', rfl, h1, h2, by rw [Heap.get_set, if_neg (by have := h.pn; omega)]; exact h3⟩
  · intro n he
    have := hb n p he
    have := h.pn
    omega
  · simp only [Heap.set]; omega
theorem Buf.load {lo p : Nat} {H : Heap} {t : List UInt8} (h : Buf lo H p t) : ∃ v, M.load false 1 (.ref p 0) H = .ok v ∧ M.len false v = .ok (.int .i64 t.length) ∧ M.toStr v H = .ok (.str t) ∧ FB lo H v t := by
  obtain ⟨e, v, hg, hf, hne, hc1, ho⟩ := h.h
  exact ⟨v, by simp only [M.load, Heap.cells, hg, M.ldc]; rfl, fb_len hf, fb_toStr hf, hf⟩

/-- What is told of a buffer. -/
structure Like (lo p : Nat) (B : Heap → List UInt8 → Prop) : Prop where
  pl : ∀ H t, B H t → lo ≤ p
  pn : ∀ H t, B H t → p < H.n
  lw : ∀ H t, B H t → lo ≤ H.low
  st : ∀ H t, B H t → B H.start t
  sl : ∀ H t k, B H t → lo ≤ k → B { H with low := k } t
theorem buf_like (lo p : Nat) : Like lo p (fun H t => Buf lo H p t) := ⟨fun _ _ h => h.pl, fun _ _ h => h.pn, fun _ _ h => h.lw, fun _ _ h => h.start, fun _ _ _ h hk => h.setLow hk⟩
/-- A text that is cut once it is too long. -/
def RT (t' t : List UInt8) : Prop := t' = t ∨ (1048576 < t'.length ∧ 1048576 < t.length)
def RBuf (lo : Nat) (H : Heap) (p : Nat) (t : List UInt8) : Prop := ∃ t', Buf lo H p t' ∧ RT t' t
theorem rbuf_like (lo p : Nat) : Like lo p (fun H t => RBuf lo H p t) := ⟨fun _ _ ⟨_, h, _⟩ => h.pl, fun _ _ ⟨_, h, _⟩ => h.pn, fun _ _ ⟨_, h, _⟩ => h.lw, fun _ _ ⟨t', h, r⟩ => ⟨t', h.start, r⟩, fun _ _ _ ⟨t', h, r⟩ hk => ⟨t', h.setLow hk, r⟩⟩

/-- What is so at a moment of a function that writes to the buffer alone. -/
structure St (p : Nat) (B : Heap → List UInt8 → Prop) (H0 : Heap) (H : Heap) (t : List UInt8) : Prop where
  b : B H t
  w : H.low ≤ p ∨ H = H0.start
/-- A call that writes to the buffer alone. -/
def Res (p : Nat) (B : Heap → List UInt8 → Prop) (H0 : Heap) (t : List UInt8) (x : Out Ans) : Prop := ∃ H', x = .ok (.tup [], H') ∧ B H' t ∧ (H'.low ≤ p ∨ H' = H0)
section
variable {lo p : Nat} {B : Heap → List UInt8 → Prop}
theorem St.init (hB : Like lo p B) {H : Heap} {t : List UInt8} (h : B H t) : St p B H H.start t := ⟨hB.st _ _ h, .inr rfl⟩
theorem Res.fin (hB : Like lo p B) {H0 H : Heap} {t0 t : List UInt8} (h0 : B H0 t0) (h : St p B H0 H t) : Res p B H0 t (.ok (gc (.tup []) H0 H)) := by
  rcases h.w with hw | rfl
  · have hn : ¬ H0.n ≤ H.low := by have := hB.pn _ _ h0; omega
    refine ⟨{ H with low := min H0.low H.low }, by unfold gc; rw [if_neg (fun hx => hn hx.1)], hB.sl _ _ _ h.b (by have := hB.lw _ _ h.b; have := hB.lw _ _ h0; omega), .inl ?_⟩
    show min H0.low H.low ≤ p
    omega
  · exact ⟨H0, by rw [gc_tup0], hB.sl H0.start _ H0.low h.b (hB.lw _ _ h0), .inr rfl⟩
theorem Res.bind {H0 H : Heap} {t t1 t' : List UInt8} {x : Out Ans} {k : Ans → Out Ans} (hs : St p B H0 H t) (h : Res p B H t1 x) (hk : ∀ H1, St p B H0 H1 t1 → Res p B H0 t' (k (.tup [], H1))) : Res p B H0 t' (x.bind k) := by
  obtain ⟨H1, rfl, hb, hw⟩ := h
  refine hk H1 ⟨hb, ?_⟩
  rcases hw with hw | rfl
  · exact .inl hw
  · exact hs.w
theorem Res.step {H0 : Heap} {t : List UInt8} {Bd : LS → (LS → Out Ans) → Out Ans} {s s' : LS} (h : ∀ k, Bd s k = k s') (h' : Res p B H0 t (loopW Bd s')) : Res p B H0 t (loopW Bd s) := by
  obtain ⟨H', h1, h2⟩ := h'
  exact ⟨H', loopW_step h h1, h2⟩
theorem Res.done {H0 : Heap} {t : List UInt8} {Bd : LS → (LS → Out Ans) → Out Ans} {s : LS} {x : Out Ans} (h : ∀ k, Bd s k = x) (h' : Res p B H0 t x) : Res p B H0 t (loopW Bd s) := by
  obtain ⟨H', h1, h2⟩ := h'
  exact ⟨H', loopW_done (fun k => (h k).trans h1), h2⟩
/-- A call, by its body. -/
theorem Res.call {H0 : Heap} {t : List UInt8} {x y : Out Ans} (h : ∀ r, y = .ok r → x = .ok r) (h' : Res p B H0 t y) : Res p B H0 t x := by
  obtain ⟨H', h1, h2⟩ := h'
  exact ⟨H', h _ h1, h2⟩
/-- .. that answers something, too. -/
def ResV (p : Nat) (B : Heap → List UInt8 → Prop) (H0 : Heap) (t : List UInt8) (v : AV) (x : Out Ans) : Prop := ∃ H', x = .ok (v, H') ∧ B H' t ∧ (H'.low ≤ p ∨ H' = H0)
theorem ResV.fin (hB : Like lo p B) {H0 H : Heap} {t0 t : List UInt8} {v : AV} (hv : clean H0.n v = true) (h0 : B H0 t0) (h : St p B H0 H t) : ResV p B H0 t v (.ok (gc v H0 H)) := by
  rcases h.w with hw | rfl
  · have hn : ¬ H0.n ≤ H.low := by have := hB.pn _ _ h0; omega
    refine ⟨{ H with low := min H0.low H.low }, by unfold gc; rw [if_neg (fun hx => hn hx.1)], hB.sl _ _ _ h.b (by have := hB.lw _ _ h.b; have := hB.lw _ _ h0; omega), .inl ?_⟩
    show min H0.low H.low ≤ p
    omega
  · exact ⟨H0, by rw [gc_start hv], hB.sl H0.start _ H0.low h.b (hB.lw _ _ h0), .inr rfl⟩
theorem ResV.bind {H0 H : Heap} {t t1 t' : List UInt8} {v v' : AV} {x : Out Ans} {k : Ans → Out Ans} (hs : St p B H0 H t) (h : ResV p B H t1 v x) (hk : ∀ H1, St p B H0 H1 t1 → ResV p B H0 t' v' (k (v, H1))) : ResV p B H0 t' v' (x.bind k) := by
  obtain ⟨H1, rfl, hb, hw⟩ := h
  refine hk H1 ⟨hb, ?_⟩
  rcases hw with hw | rfl
  · exact .inl hw
  · exact hs.w
theorem Res.bindV {H0 H : Heap} {t t1 t' : List UInt8} {v : AV} {x : Out Ans} {k : Ans → Out Ans} (hs : St p B H0 H t) (h : ResV p B H t1 v x) (hk : ∀ H1, St p B H0 H1 t1 → Res p B H0 t' (k (v, H1))) : Res p B H0 t' (x.bind k) := by
  obtain ⟨H1, rfl, hb, hw⟩ := h
  refine hk H1 ⟨hb, ?_⟩
  rcases hw with hw | rfl
  · exact .inl hw
  · exact hs.w
theorem ResV.bindR {H0 H : Heap} {t t1 t' : List UInt8} {v : AV} {x : Out Ans} {k : Ans → Out Ans} (hs : St p B H0 H t) (h : Res p B H t1 x) (hk : ∀ H1, St p B H0 H1 t1 → ResV p B H0 t' v (k (.tup [], H1))) : ResV p B H0 t' v (x.bind k) := ResV.bind hs h hk
theorem ResV.call {H0 : Heap} {t : List UInt8} {v : AV} {x y : Out Ans} (h : ∀ r, y = .ok r → x = .ok r) (h' : ResV p B H0 t v y) : ResV p B H0 t v x := by
  obtain ⟨H', h1, h2⟩ := h'
  exact ⟨H', h _ h1, h2⟩
end
end Go.Proofs.YtnhblghplohonaaGreatDoor.Ab
/- Walks: how texts are put. -/
namespace Go.Proofs.YtnhblghplohonaaGreatDoor.Ab
open Go
variable {m : Int}

theorem s_put {lo p : Nat} {H : Heap} {t : List UInt8} (ss : List (List UInt8)) (h : Buf lo H p t) (hc : t.length + ss.flatten.length ≤ 1099511627776) (hn : ss.length < 1000) :
    Res p (fun H t => Buf lo H p t) H (t ++ ss.flatten) (W m 31 [.ref p 0, .isl 1 (ss.map .str)] H) := by
  refine Res.call (fun r hr => c31 rfl _ _ H hr) ?_
  unfold g31
  have key : ∀ k i H1 t1, i + k = ss.length → St p (fun H t => Buf lo H p t) H H1 t1 → t1.length + (ss.drop i).flatten.length ≤ 1099511627776 →
      Res p (fun H t => Buf lo H p t) H (t1 ++ (ss.drop i).flatten) (loopW (g31_l1 (W m) loopW H) ([.ref p 0, .isl 1 (ss.map .str), .int .i64 ss.length, .int .i64 (i : Nat)], [], H1)) := by
    intro k
    induction k with
    | zero =>
      intro i H1 t1 hi hs hc
      refine Res.done (x := .ok (gc (.tup []) H H1)) (fun k => ?_) ?_
      · unfold g31_l1
        simp -implicitDefEqProofs [show ¬ i < ss.length by omega]
      · rw [List.drop_eq_nil_of_le (by omega), List.flatten_nil, List.append_nil]
        exact Res.fin (buf_like lo p) h hs
    | succ k ih =>
      intro i H1 t1 hi hs hc
      have hil : i < ss.length := by omega
      rw [List.drop_eq_getElem_cons hil, List.flatten_cons] at hc ⊢
      rw [List.length_append] at hc
      obtain ⟨v, v', H2, H3, e1, e2, e3, hb, hw⟩ := Buf.put hs.b (src_str ss[i]) (by omega)
      refine Res.step (s' := ([.ref p 0, .isl 1 (ss.map .str), .int .i64 ss.length, .int .i64 ((i + 1 : Nat) : Int)], [], H3)) (fun k => ?_) ?_
      · unfold g31_l1
        have e0 : M.indexSl 1 (.isl 1 (ss.map .str)) (.int .i64 (i : Int)) = .ok (.iptr [.str ss[i]]) := by
          simp [M.indexSl, List.getElem?_eq_getElem hil, AV.cells]
        simp -implicitDefEqProofs [hil, e0, e1, e2, e3, wrap_i64 (x := (i : Int) + 1) (by omega) (by omega)]
      · rw [← List.append_assoc]
        exact ih (i + 1) H3 (t1 ++ ss[i]) (by omega) ⟨hb, .inl hw⟩ (by rw [List.length_append]; omega)
  simp -implicitDefEqProofs only [len_isl, bind_ok, List.length_map]
  have := key ss.length 0 H.start t (by simp) (St.init (buf_like lo p) h) (by simpa using hc)
  rw [List.drop_zero] at this
  exact this
theorem s_putR {lo p : Nat} {H : Heap} {t : List UInt8} (s : List UInt8) (h : RBuf lo H p t) (hc : s.length ≤ 1073741824) :
    Res p (fun H t => RBuf lo H p t) H (t ++ s) (W m 41 [.ref p 0, .str s] H) := by
  refine Res.call (fun r hr => c41 rfl _ _ H hr) ?_
  unfold g41
  obtain ⟨t', hb, hr⟩ := h
  obtain ⟨v, l1, l2, l3, l4⟩ := hb.start.load
  by_cases hl : t'.length ≤ 1048576
  · have hl' : decide ((t'.length : Int) ≤ 1048576) = true := decide_eq_true (by omega)
    obtain ⟨v0, v', H2, H3, e1, e2, e3, hb3, hw⟩ := Buf.put hb.start (src_str s) (by omega)
    have hr3 : RT (t' ++ s) (t ++ s) := by
      rcases hr with rfl | ⟨h1, h2⟩
      · exact .inl rfl
      · omega
    rw [l1] at e1
    cases e1
    have := Res.fin (rbuf_like lo p) (H0 := H) (t0 := t) (H := H3) (t := t ++ s) ⟨t', hb, hr⟩ ⟨⟨_, hb3, hr3⟩, .inl hw⟩
    simp -implicitDefEqProofs [l1, l2, hl', e2, e3]
    simpa using this
  · have hl' : decide ((t'.length : Int) ≤ 1048576) = false := decide_eq_false (by omega)
    have hr3 : RT t' (t ++ s) := by
      rcases hr with rfl | ⟨h1, h2⟩
      · exact .inr ⟨by omega, by rw [List.length_append]; omega⟩
      · exact .inr ⟨by omega, by rw [List.length_append]; omega⟩
    simp -implicitDefEqProofs [l1, l2, hl']
    exact ⟨H, rfl, ⟨t', hb, hr3⟩, .inr rfl⟩
end Go.Proofs.YtnhblghplohonaaGreatDoor.Ab
/- Walks: quoted texts, numerals. -/
namespace Go.Proofs.YtnhblghplohonaaGreatDoor.Ab
open Go
variable {m : Int}

theorem bin_shr8 (P : Program) (t : TypeId) (x y : Operand) (n : Nat) : M.bin P .shr t x y (.int .u8 n) (.int .u64 4) = .ok (.int .u8 (n / 16 : Nat)) := by
  have : M.bin P .shr t x y (.int .u8 n) (.int .u64 4) = .ok (.int .u8 ((n : Int).fdiv 16)) := rfl
  rw [this, Int.fdiv_eq_ediv_of_nonneg _ (by decide)]; rfl
theorem bin_shr32 (P : Program) (t : TypeId) (x y : Operand) (n : Nat) : M.bin P .shr t x y (.int .u32 n) (.int .u64 4) = .ok (.int .u32 (n / 16 : Nat)) := by
  have : M.bin P .shr t x y (.int .u32 n) (.int .u64 4) = .ok (.int .u32 ((n : Int).fdiv 16)) := rfl
  rw [this, Int.fdiv_eq_ediv_of_nonneg _ (by decide)]; rfl
theorem and8 : ∀ n, n < 256 → (match Op.intBits .and .u8 (n : Nat) 15 with | .pure (.int k r) => some (k, r) | _ => none) = some (.u8, ((n % 16 : Nat) : Int)) := by decide +kernel
theorem and32 : ∀ n, n < 256 → (match Op.intBits .and .u32 (n : Nat) 15 with | .pure (.int k r) => some (k, r) | _ => none) = some (.u32, ((n % 16 : Nat) : Int)) := by decide +kernel
theorem bin_and8 (P : Program) (t : TypeId) (x y : Operand) {n : Nat} (h : n < 256) : M.bin P .and t x y (.int .u8 n) (.int .u8 15) = .ok (.int .u8 (n % 16 : Nat)) := by
  have h1 := and8 n h
  show (match Op.intBits .and .u8 (n : Nat) 15 with | .pure (.int k r) => .ok (.int k r) | .pure (.bool r) => .ok (.bool r) | _ => .no : Out AV) = _
  split at h1
  · rename_i k r he
    rw [he]
    injection h1 with h1
    injection h1 with h2 h3
    rw [h2, h3]
  · cases h1
theorem bin_and32 (P : Program) (t : TypeId) (x y : Operand) {n : Nat} (h : n < 256) : M.bin P .and t x y (.int .u32 n) (.int .u32 15) = .ok (.int .u32 (n % 16 : Nat)) := by
  have h1 := and32 n h
  show (match Op.intBits .and .u32 (n : Nat) 15 with | .pure (.int k r) => .ok (.int k r) | .pure (.bool r) => .ok (.bool r) | _ => .no : Out AV) = _
  split at h1
  · rename_i k r he
    rw [he]
    injection h1 with h1
    injection h1 with h2 h3
    rw [h2, h3]
  · cases h1
theorem bin_quo32 (P : Program) (t : TypeId) (x y : Operand) {n d : Nat} (h : n < 4294967296) (hd : 0 < d) : M.bin P .quo t x y (.int .u32 n) (.int .u32 d) = .ok (.int .u32 (n / d : Nat)) := by
  have hne : (d : Int) ≠ 0 := by omega
  have : M.bin P .quo t x y (.int .u32 n) (.int .u32 d) = .ok (.int .u32 (IntKind.wrap .u32 ((n : Int).tdiv d))) := by
    show (match Op.intDiv .quo .u32 (n : Nat) (d : Nat) with | .pure (.int k r) => .ok (.int k r) | .pure (.bool r) => .ok (.bool r) | _ => .no : Out AV) = _
    have h1 : Op.intDiv .quo .u32 (n : Nat) (d : Nat) = .pure (.int .u32 (IntKind.wrap .u32 ((n : Int).tdiv d))) := by unfold Op.intDiv; rw [if_neg hne]; rfl
    rw [h1]
  have hle := Nat.div_le_self n d
  rw [this, show ((n : Int).tdiv d) = ((n / d : Nat) : Int) from rfl, wrap_u32 (by exact Int.natCast_nonneg _) (by generalize n / d = q at *; omega)]
theorem bin_rem32 (P : Program) (t : TypeId) (x y : Operand) {n d : Nat} (hd : 0 < d) : M.bin P .rem t x y (.int .u32 n) (.int .u32 d) = .ok (.int .u32 (n % d : Nat)) := by
  have hne : (d : Int) ≠ 0 := by omega
  show (match Op.intDiv .rem .u32 (n : Nat) (d : Nat) with | .pure (.int k r) => .ok (.int k r) | .pure (.bool r) => .ok (.bool r) | _ => .no : Out AV) = _
  have h1 : Op.intDiv .rem .u32 (n : Nat) (d : Nat) = .pure (.int .u32 ((n : Int).tmod d)) := by unfold Op.intDiv; rw [if_neg hne]; rfl
  rw [h1]; rfl

/-- A hexadecimal digit. -/
def hexL : List UInt8 := [48, 49, 50, 51, 52, 53, 54, 55, 56, 57, 97, 98, 99, 100, 101, 102]
def hexd (n : Nat) : UInt8 := hexL.getD n 0
theorem fold_hex : ([48, 49, 50, 51, 52, 53, 54, 55, 56, 57, 97, 98, 99, 100, 101, 102] : List UInt8) = hexL := rfl
theorem index_hex {k : IntKind} {n : Nat} (h : n < 16) : M.indexStr (.str hexL) (.int k n) = .ok (.int .u8 (hexd n).toNat) := by
  have : hexL[n]? = some (hexd n) := by
    unfold hexd
    rw [List.getD_eq_getElem?_getD, List.getElem?_eq_getElem (show n < hexL.length from h)]; rfl
  exact index_str (by omega) (by simpa using this)
/-- A byte within a string's literal. -/
def qb (c : UInt8) : List UInt8 :=
  if c = 10 then [92, 110] else if c = 9 then [92, 116] else if c = 13 then [92, 114] else if c = 0 then [92, 48] else if c = 34 then [92, 34] else if c = 92 then [92, 92]
  else if 32 ≤ c.toNat ∧ c.toNat ≤ 126 then [c] else [92, 120, hexd (c.toNat / 16), hexd (c.toNat % 16)]
def quote (s : List UInt8) : List UInt8 := 34 :: s.flatMap qb ++ [34]
theorem qb_le (c : UInt8) : (qb c).length ≤ 4 := by
  unfold qb
  iterate 7 (split; · simp)
  simp
theorem src_b1 (a : UInt8) : Src (.isl 1 [.int .u8 a.toNat]) [a] := src_isl [a]
theorem src_b2 (a b : UInt8) : Src (.isl 1 [.int .u8 a.toNat, .int .u8 b.toNat]) [a, b] := src_isl [a, b]
theorem src_b4 (a b c d : UInt8) : Src (.isl 1 [.int .u8 a.toNat, .int .u8 b.toNat, .int .u8 c.toNat, .int .u8 d.toNat]) [a, b, c, d] := src_isl [a, b, c, d]
/-- A moment of a function that has a list of bytes of its own. -/
structure Own (H0 H : Heap) (v : AV) (t : List UInt8) : Prop where
  f : FB H0.n H v t
  n : H0.n ≤ H.n
  l : H0.n ≤ H.low
theorem Own.app {H0 H : Heap} {v x : AV} {t s : List UInt8} (h : Own H0 H v t) (hx : Src x s) (hc : t.length + s.length ≤ 1099511627776) : ∃ v' H', M.append 5 1 1 v x H = .ok (v', H') ∧ Own H0 H' v' (t ++ s) := by
  obtain ⟨v', H', e, f, l, n, _⟩ := fb_append h.f hx h.n h.l hc
  exact ⟨v', H', e, f, Nat.le_trans h.n n, l⟩
theorem beq_u8n (c : UInt8) (n : Nat) (h : n < 256) : ((c.toNat : Int) == (n : Int)) = (c == UInt8.ofNat n) := beq_u8 c n h
theorem s_quoteR (s : List UInt8) (hs : s.length ≤ 1073741824) (H : Heap) : W m 113 [.str s] H = .ok (.str (quote s), H) := by
  refine c113 rfl s H ?_
  unfold g113
  have key : ∀ k i H1 v t, i + k = s.length → Own H H1 v t → t.length ≤ 4 * i + 1 → loopW (g113_l3 (W m) loopW H) ([.str s, v, .int .i64 (i : Nat)], [], H1) = .ok (.str (t ++ (s.drop i).flatMap qb ++ [34]), H) := by
    intro k
    induction k with
    | zero =>
      intro i H1 v t hi ho ht
      refine loopW_done fun k => ?_
      obtain ⟨v', H2, e, o2⟩ := ho.app (src_b1 34) (by simp; omega)
      have e : M.append 5 1 1 v (.isl 1 [.int .u8 34]) H1 = .ok (v', H2) := e
      have ts := fb_toStr o2.f
      unfold g113_l3
      simp -implicitDefEqProofs [show ¬ i < s.length by omega, e, ts]
      rw [gc_quiet o2.l rfl, List.drop_eq_nil_of_le (by omega)]
      simp
    | succ k ih =>
      intro i H1 v t hi ho ht
      have hil : i < s.length := by omega
      rw [List.drop_eq_getElem_cons hil, List.flatMap_cons]
      have hq := qb_le s[i]
      have fin : ∀ x, Src x (qb s[i]) → ∃ v' H2, M.append 5 1 1 v x H1 = .ok (v', H2) ∧ loopW (g113_l3 (W m) loopW H) ([.str s, v', .int .i64 ((i + 1 : Nat) : Int)], [], H2) = .ok (.str (t ++ (qb s[i] ++ (s.drop (i + 1)).flatMap qb) ++ [34]), H) := fun x hx => by
        obtain ⟨v', H2, e, o2⟩ := ho.app hx (by omega)
        have := ih (i + 1) H2 v' (t ++ qb s[i]) (by omega) o2 (by rw [List.length_append]; omega)
        rw [List.append_assoc t] at this
        exact ⟨v', H2, e, this⟩
      have hidx : M.indexStr (.str s) (.int .i64 (i : Int)) = .ok (.int .u8 s[i].toNat) := index_strn hil
      have w1 := wrap_i64 (x := (i : Int) + 1) (by omega) (by omega)
      generalize s[i] = c at *
      have b10 : ((c.toNat : Int) == 10) = (c == 10) := beq_u8 c 10 (by decide)
      have b9 : ((c.toNat : Int) == 9) = (c == 9) := beq_u8 c 9 (by decide)
      have b13 : ((c.toNat : Int) == 13) = (c == 13) := beq_u8 c 13 (by decide)
      have b0 : ((c.toNat : Int) == 0) = (c == 0) := beq_u8 c 0 (by decide)
      have b34 : ((c.toNat : Int) == 34) = (c == 34) := beq_u8 c 34 (by decide)
      have b92 : ((c.toNat : Int) == 92) = (c == 92) := beq_u8 c 92 (by decide)
      by_cases h10 : c = 10
      · obtain ⟨v', H2, e, hl⟩ := fin (.isl 1 [.int .u8 92, .int .u8 110]) (by rw [h10]; exact src_b2 92 110)
        refine loopW_step (s' := _) (fun k => ?_) hl
        unfold g113_l3 jn
        simp -implicitDefEqProofs [hil, hidx, b10, h10, e, w1]
      by_cases h9 : c = 9
      · obtain ⟨v', H2, e, hl⟩ := fin (.isl 1 [.int .u8 92, .int .u8 116]) (by rw [h9]; exact src_b2 92 116)
        refine loopW_step (s' := _) (fun k => ?_) hl
        unfold g113_l3 jn
        simp -implicitDefEqProofs [hil, hidx, b10, b9, h10, h9, e, w1]
      by_cases h13 : c = 13
      · obtain ⟨v', H2, e, hl⟩ := fin (.isl 1 [.int .u8 92, .int .u8 114]) (by rw [h13]; exact src_b2 92 114)
        refine loopW_step (s' := _) (fun k => ?_) hl
        unfold g113_l3 jn
        simp -implicitDefEqProofs [hil, hidx, b10, b9, b13, h10, h9, h13, e, w1]
      by_cases h0 : c = 0
      · obtain ⟨v', H2, e, hl⟩ := fin (.isl 1 [.int .u8 92, .int .u8 48]) (by rw [h0]; exact src_b2 92 48)
        refine loopW_step (s' := _) (fun k => ?_) hl
        unfold g113_l3 jn
        simp -implicitDefEqProofs [hil, hidx, b10, b9, b13, b0, h10, h9, h13, h0, e, w1]
      have n10 : (c == 10) = false := by simp [h10]
      have n9 : (c == 9) = false := by simp [h9]
      have n13 : (c == 13) = false := by simp [h13]
      have n0 : (c == 0) = false := by simp [h0]
      by_cases h3 : c = 34 ∨ c = 92
      · have hqc : qb c = [92, c] := by unfold qb; rcases h3 with rfl | rfl <;> rfl
        obtain ⟨v', H2, e, hl⟩ := fin (.isl 1 [.int .u8 92, .int .u8 c.toNat]) (by rw [hqc]; exact src_b2 92 c)
        refine loopW_step (s' := _) (fun k => ?_) hl
        have h3' : (c == 34 || c == 92) = true := by simpa using h3
        unfold g113_l3 jn
        cases h34 : (c == 34) with
        | true => simp -implicitDefEqProofs [hil, hidx, b10, b9, b13, b0, b34, n10, n9, n13, n0, h34, e, w1, M.fill, M.stc, M.over, chunks, AV.one, AV.cells]
        | false =>
          rw [h34, Bool.false_or] at h3'
          simp -implicitDefEqProofs [hil, hidx, b10, b9, b13, b0, b34, b92, n10, n9, n13, n0, h34, h3', e, w1, M.fill, M.stc, M.over, chunks, AV.one, AV.cells]
      · have h34 : (c == 34) = false := by simp; exact fun e => h3 (.inl e)
        have h92 : (c == 92) = false := by simp; exact fun e => h3 (.inr e)
        by_cases hp : 32 ≤ c.toNat ∧ c.toNat ≤ 126
        · have hqc : qb c = [c] := by unfold qb; rw [if_neg h10, if_neg h9, if_neg h13, if_neg h0, if_neg (fun e => h3 (.inl e)), if_neg (fun e => h3 (.inr e)), if_pos hp]
          obtain ⟨v', H2, e, hl⟩ := fin (.isl 1 [.int .u8 c.toNat]) (by rw [hqc]; exact src_b1 c)
          refine loopW_step (s' := _) (fun k => ?_) hl
          have p1 : decide ((32 : Int) ≤ c.toNat) = true := decide_eq_true (by omega)
          have p2 : decide ((c.toNat : Int) ≤ 126) = true := decide_eq_true (by omega)
          unfold g113_l3 jn
          simp -implicitDefEqProofs [hil, hidx, b10, b9, b13, b0, b34, b92, n10, n9, n13, n0, h34, h92, p1, p2, e, w1, M.fill, M.stc, M.over, chunks, AV.one, AV.cells]
        · have hqc : qb c = [92, 120, hexd (c.toNat / 16), hexd (c.toNat % 16)] := by unfold qb; rw [if_neg h10, if_neg h9, if_neg h13, if_neg h0, if_neg (fun e => h3 (.inl e)), if_neg (fun e => h3 (.inr e)), if_neg hp]
          obtain ⟨v', H2, e, hl⟩ := fin (.isl 1 [.int .u8 92, .int .u8 120, .int .u8 (hexd (c.toNat / 16)).toNat, .int .u8 (hexd (c.toNat % 16)).toNat]) (by rw [hqc]; exact src_b4 92 120 _ _)
          refine loopW_step (s' := _) (fun k => ?_) hl
          have hlt := c.toNat_lt
          have i1 := index_hex (k := .u8) (n := c.toNat / 16) (by omega)
          have i2 := index_hex (k := .u8) (n := c.toNat % 16) (by omega)
          have a1 := fun P t x y => bin_shr8 P t x y c.toNat
          have a2 := fun P t x y => bin_and8 P t x y (n := c.toNat) (by omega)
          unfold g113_l3 jn
          rw [fold_hex]
          by_cases p1 : 32 ≤ c.toNat
          · have p2 : decide ((c.toNat : Int) ≤ 126) = false := decide_eq_false (by omega)
            have p1' : decide ((32 : Int) ≤ c.toNat) = true := decide_eq_true (by omega)
            simp -implicitDefEqProofs only [List.getD_cons_zero, List.getD_cons_succ, len_str, bind_ok, bin_lss, Int.ofNat_lt, hil, decide_true, cond_tt, hidx, bin_eql, b10, b9, b13, b0, b34, b92, n10, n9, n13, n0, h34, h92, cond_ff, guard_ff, pick_ff, bin_geq, ge_iff_le, p1', guard_tt, bin_leq, p2, pick_tt, a1, i1, a2, i2, bin_add, w1, M.fill, M.stc, M.over, chunks, AV.one, AV.cells, Nat.reduceMul, List.length_cons, List.length_nil, Nat.reduceAdd, Nat.reduceLeDiff, and_self, if_true, List.take_zero, List.nil_append, List.cons_append, List.drop_succ_cons, List.drop_zero, List.take_succ_cons, Bool.false_eq_true, if_false, List.getElem?_cons_zero, Option.getD_some, List.drop_nil, e, Int.natCast_add, Int.natCast_one]
          · have p1' : decide ((32 : Int) ≤ c.toNat) = false := decide_eq_false (by omega)
            simp -implicitDefEqProofs only [List.getD_cons_zero, List.getD_cons_succ, len_str, bind_ok, bin_lss, Int.ofNat_lt, hil, decide_true, cond_tt, hidx, bin_eql, b10, b9, b13, b0, b34, b92, n10, n9, n13, n0, h34, h92, cond_ff, guard_ff, pick_ff, bin_geq, ge_iff_le, p1', guard_ft, a1, i1, a2, i2, bin_add, w1, M.fill, M.stc, M.over, chunks, AV.one, AV.cells, Nat.reduceMul, List.length_cons, List.length_nil, Nat.reduceAdd, Nat.reduceLeDiff, and_self, if_true, List.take_zero, List.nil_append, List.cons_append, List.drop_succ_cons, List.drop_zero, List.take_succ_cons, Bool.false_eq_true, if_false, List.getElem?_cons_zero, Option.getD_some, List.drop_nil, e, Int.natCast_add, Int.natCast_one]
  have h0 : Own H (H.start.alloc (.cells 5 [.int .u8 34])) (.sl H.n 0 1 1) [34] := ⟨.inr ⟨H.n, 5, rfl, Nat.le_refl _, by simp [Heap.alloc], by rw [Heap.get_alloc, if_pos (show H.n = H.start.n from rfl)]; rfl⟩, by simp [Heap.alloc], by simp [Heap.alloc]⟩
  have := key s.length 0 _ _ _ (by simp) h0 (by simp)
  simp only [List.drop_zero] at this
  exact this
theorem s_quote (s : List UInt8) (hs : s.length ≤ 1073741824) (H : Heap) : W m 119 [.str s] H = .ok (.str (quote s), H) := by
  refine c119 rfl s H ?_
  unfold g119
  have key : ∀ k i H1 v t, i + k = s.length → Own H H1 v t → t.length ≤ 4 * i + 1 → loopW (g119_l3 (W m) loopW H) ([.str s, v, .int .i64 s.length, .int .i64 (i : Nat)], [], H1) = .ok (.str (t ++ (s.drop i).flatMap qb ++ [34]), H) := by
    intro k
    induction k with
    | zero =>
      intro i H1 v t hi ho ht
      refine loopW_done fun k => ?_
      obtain ⟨v', H2, e, o2⟩ := ho.app (src_b1 34) (by simp; omega)
      have e : M.append 5 1 1 v (.isl 1 [.int .u8 34]) H1 = .ok (v', H2) := e
      have ts := fb_toStr o2.f
      unfold g119_l3
      simp -implicitDefEqProofs [show ¬ i < s.length by omega, e, ts]
      rw [gc_quiet o2.l rfl, List.drop_eq_nil_of_le (by omega)]
      simp
    | succ k ih =>
      intro i H1 v t hi ho ht
      have hil : i < s.length := by omega
      rw [List.drop_eq_getElem_cons hil, List.flatMap_cons]
      have hq := qb_le s[i]
      have fin : ∀ x, Src x (qb s[i]) → ∃ v' H2, M.append 5 1 1 v x H1 = .ok (v', H2) ∧ loopW (g119_l3 (W m) loopW H) ([.str s, v', .int .i64 s.length, .int .i64 ((i + 1 : Nat) : Int)], [], H2) = .ok (.str (t ++ (qb s[i] ++ (s.drop (i + 1)).flatMap qb) ++ [34]), H) := fun x hx => by
        obtain ⟨v', H2, e, o2⟩ := ho.app hx (by omega)
        have := ih (i + 1) H2 v' (t ++ qb s[i]) (by omega) o2 (by rw [List.length_append]; omega)
        rw [List.append_assoc t] at this
        exact ⟨v', H2, e, this⟩
      have hidx : M.indexStr (.str s) (.int .i64 (i : Int)) = .ok (.int .u8 s[i].toNat) := index_strn hil
      have w1 := wrap_i64 (x := (i : Int) + 1) (by omega) (by omega)
      generalize s[i] = c at *
      have hib : ∀ H, W m 126 [.str [10, 9, 13, 0, 34, 92], .int .u8 c.toNat] H = .ok (.int .i64 (Lib.indexByte [10, 9, 13, 0, 34, 92] c), H) := fun H => by
        rw [sIndexByte]; simp
      by_cases hsp : c = 10 ∨ c = 9 ∨ c = 13 ∨ c = 0 ∨ c = 34 ∨ c = 92
      · have hex : ∃ (j : Nat) (d : UInt8), Lib.indexByte [10, 9, 13, 0, 34, 92] c = (j : Int) ∧ ([110, 116, 114, 48, 34, 92] : List UInt8)[j]? = some d ∧ qb c = [92, d] := by
          rcases hsp with rfl | rfl | rfl | rfl | rfl | rfl
          · exact ⟨0, 110, rfl, rfl, rfl⟩
          · exact ⟨1, 116, rfl, rfl, rfl⟩
          · exact ⟨2, 114, rfl, rfl, rfl⟩
          · exact ⟨3, 48, rfl, rfl, rfl⟩
          · exact ⟨4, 34, rfl, rfl, rfl⟩
          · exact ⟨5, 92, rfl, rfl, rfl⟩
        obtain ⟨j, d, e1, e2, e3⟩ := hex
        obtain ⟨v', H2, e, hl⟩ := fin (.isl 1 [.int .u8 92, .int .u8 d.toNat]) (by rw [e3]; exact src_b2 92 d)
        refine loopW_step (s' := _) (fun k => ?_) hl
        have i1 : M.indexStr (.str [110, 116, 114, 48, 34, 92]) (.int .i64 (j : Int)) = .ok (.int .u8 d.toNat) := index_str (by omega) (by simpa using e2)
        have hge : decide ((j : Int) ≥ 0) = true := decide_eq_true (by omega)
        unfold g119_l3 jn
        simp -implicitDefEqProofs only [List.getD_cons_zero, List.getD_cons_succ, bind_ok, bin_lss, Int.ofNat_lt, hil, decide_true, cond_tt, hidx, hib, e1, bin_geq, hge, i1, bin_add, w1, M.fill, M.stc, M.over, chunks, AV.one, AV.cells, Nat.reduceMul, List.length_cons, List.length_nil, Nat.reduceAdd, Nat.reduceLeDiff, and_self, if_true, List.take_zero, List.nil_append, List.cons_append, List.drop_succ_cons, List.drop_zero, List.take_succ_cons, Bool.false_eq_true, if_false, List.getElem?_cons_zero, Option.getD_some, List.drop_nil, e, Int.natCast_add, Int.natCast_one]
      · have h10 : c ≠ 10 := fun e => hsp (.inl e)
        have h9 : c ≠ 9 := fun e => hsp (.inr (.inl e))
        have h13 : c ≠ 13 := fun e => hsp (.inr (.inr (.inl e)))
        have h0 : c ≠ 0 := fun e => hsp (.inr (.inr (.inr (.inl e))))
        have h34 : c ≠ 34 := fun e => hsp (.inr (.inr (.inr (.inr (.inl e)))))
        have h92 : c ≠ 92 := fun e => hsp (.inr (.inr (.inr (.inr (.inr e)))))
        have hneg : Lib.indexByte [10, 9, 13, 0, 34, 92] c = -1 := by
          simp [Lib.indexByte, h10.symm, h9.symm, h13.symm, h0.symm, h34.symm, h92.symm]
        by_cases hp : 32 ≤ c.toNat ∧ c.toNat ≤ 126
        · have hqc : qb c = [c] := by unfold qb; rw [if_neg h10, if_neg h9, if_neg h13, if_neg h0, if_neg h34, if_neg h92, if_pos hp]
          obtain ⟨v', H2, e, hl⟩ := fin (.isl 1 [.int .u8 c.toNat]) (by rw [hqc]; exact src_b1 c)
          refine loopW_step (s' := _) (fun k => ?_) hl
          have p1 : decide ((c.toNat : Int) ≥ 32) = true := decide_eq_true (by omega)
          have p2 : decide ((c.toNat : Int) ≤ 126) = true := decide_eq_true (by omega)
          have hge : decide ((-1 : Int) ≥ 0) = false := rfl
          unfold g119_l3 jn
          simp -implicitDefEqProofs only [List.getD_cons_zero, List.getD_cons_succ, bind_ok, bin_lss, Int.ofNat_lt, hil, decide_true, cond_tt, cond_ff, hidx, hib, hneg, bin_geq, hge, p1, guard_tt, bin_leq, p2, pick_tt, bin_add, w1, M.fill, M.stc, M.over, chunks, AV.one, AV.cells, Nat.reduceMul, List.length_cons, List.length_nil, Nat.reduceAdd, Nat.reduceLeDiff, and_self, if_true, List.take_zero, List.nil_append, List.cons_append, List.drop_succ_cons, List.drop_zero, List.take_succ_cons, Bool.false_eq_true, if_false, List.getElem?_cons_zero, Option.getD_some, List.drop_nil, e, Int.natCast_add, Int.natCast_one]
        · have hqc : qb c = [92, 120, hexd (c.toNat / 16), hexd (c.toNat % 16)] := by unfold qb; rw [if_neg h10, if_neg h9, if_neg h13, if_neg h0, if_neg h34, if_neg h92, if_neg hp]
          obtain ⟨v', H2, e, hl⟩ := fin (.isl 1 [.int .u8 92, .int .u8 120, .int .u8 (hexd (c.toNat / 16)).toNat, .int .u8 (hexd (c.toNat % 16)).toNat]) (by rw [hqc]; exact src_b4 92 120 _ _)
          refine loopW_step (s' := _) (fun k => ?_) hl
          have hlt := c.toNat_lt
          have i1 := index_hex (k := .u8) (n := c.toNat / 16) (by omega)
          have i2 := index_hex (k := .u8) (n := c.toNat % 16) (by omega)
          have a1 := fun P t x y => bin_shr8 P t x y c.toNat
          have a2 := fun P t x y => bin_and8 P t x y (n := c.toNat) (by omega)
          have hge : decide ((-1 : Int) ≥ 0) = false := rfl
          unfold g119_l3 jn
          rw [fold_hex]
          by_cases p1 : 32 ≤ c.toNat
          · have p2 : decide ((c.toNat : Int) ≤ 126) = false := decide_eq_false (by omega)
            have p1' : decide ((c.toNat : Int) ≥ 32) = true := decide_eq_true (by omega)
            simp -implicitDefEqProofs only [List.getD_cons_zero, List.getD_cons_succ, bind_ok, bin_lss, Int.ofNat_lt, hil, decide_true, cond_tt, cond_ff, hidx, hib, hneg, bin_geq, hge, p1', guard_tt, bin_leq, p2, pick_tt, a1, i1, a2, i2, bin_add, w1, M.fill, M.stc, M.over, chunks, AV.one, AV.cells, Nat.reduceMul, List.length_cons, List.length_nil, Nat.reduceAdd, Nat.reduceLeDiff, and_self, if_true, List.take_zero, List.nil_append, List.cons_append, List.drop_succ_cons, List.drop_zero, List.take_succ_cons, Bool.false_eq_true, if_false, List.getElem?_cons_zero, Option.getD_some, List.drop_nil, e, Int.natCast_add, Int.natCast_one]
          · have p1' : decide ((c.toNat : Int) ≥ 32) = false := decide_eq_false (by omega)
            simp -implicitDefEqProofs only [List.getD_cons_zero, List.getD_cons_succ, bind_ok, bin_lss, Int.ofNat_lt, hil, decide_true, cond_tt, cond_ff, hidx, hib, hneg, bin_geq, hge, p1', guard_ft, pick_ff, a1, i1, a2, i2, bin_add, w1, M.fill, M.stc, M.over, chunks, AV.one, AV.cells, Nat.reduceMul, List.length_cons, List.length_nil, Nat.reduceAdd, Nat.reduceLeDiff, and_self, if_true, List.take_zero, List.nil_append, List.cons_append, List.drop_succ_cons, List.drop_zero, List.take_succ_cons, Bool.false_eq_true, if_false, List.getElem?_cons_zero, Option.getD_some, List.drop_nil, e, Int.natCast_add, Int.natCast_one]
  have h0 : Own H (H.start.alloc (.cells 5 [.int .u8 34])) (.sl H.n 0 1 1) [34] := ⟨.inr ⟨H.n, 5, rfl, Nat.le_refl _, by simp [Heap.alloc], by rw [Heap.get_alloc, if_pos (show H.n = H.start.n from rfl)]; rfl⟩, by simp [Heap.alloc], by simp [Heap.alloc]⟩
  have := key s.length 0 _ _ _ (by simp) h0 (by simp)
  simp only [List.drop_zero] at this
  exact this
end Go.Proofs.YtnhblghplohonaaGreatDoor.Ab
/- Walks: the reference's numerals; operators' levels. -/
namespace Go.Proofs.YtnhblghplohonaaGreatDoor.Ab
open Go
variable {m : Int}

theorem decDigits_small {u : Nat} (h : u < 10) : Lib.decDigits u = [UInt8.ofNat (48 + u)] := by rw [Lib.decDigits, dif_pos h]
theorem decDigits_big {u : Nat} (h : ¬ u < 10) : Lib.decDigits u = Lib.decDigits (u / 10) ++ [UInt8.ofNat (48 + u % 10)] := by rw [Lib.decDigits, dif_neg h]
/-- No digits yet, or a list of its own. -/
structure DV (H0 H : Heap) (v : AV) (t : List UInt8) : Prop where
  n : H0.n ≤ H.n
  l : H0.n ≤ H.low
  f : (v = .isl 1 [] ∧ t = []) ∨ FB H0.n H v t
theorem DV.len {H0 H : Heap} {v : AV} {t : List UInt8} (h : DV H0 H v t) : M.len false v = .ok (.int .i64 t.length) := by
  rcases h.f with ⟨rfl, rfl⟩ | h
  · rfl
  · exact fb_len h
theorem DV.cells {H0 H : Heap} {v : AV} {t : List UInt8} (h : DV H0 H v t) (x : Blk) : M.cellsOf 1 v (H.alloc x) = .ok (t.length, bytes t) := by
  rcases h.f with ⟨rfl, rfl⟩ | hf
  · rfl
  · refine fb_cells (lo := H0.n) ?_
    rcases hf with ⟨h1, h2⟩ | ⟨b, e, h1, h2, h3, h4⟩
    · exact .inl ⟨h1, h2⟩
    · exact .inr ⟨b, e, h1, h2, by simp [Heap.alloc]; omega, by rw [Heap.get_alloc, if_neg (by omega)]; exact h4⟩
theorem DV.str {H0 H : Heap} {v : AV} {t : List UInt8} (h : DV H0 H v t) : M.toStr v H = .ok (.str t) := by
  rcases h.f with ⟨rfl, rfl⟩ | h
  · rfl
  · exact fb_toStr h
theorem dec_loop (H : Heap) : ∀ (f : Nat) (n : Nat) (v : AV) (t : List UInt8) (H1 : Heap), n + (if t = [] then 1 else 0) < f → n < 4294967296 → DV H H1 v t → t.length + f ≤ 4294967300 →
    loopW (g112_l2 (W m) loopW H) ([.int .u32 (n : Nat), v], [], H1) = .ok (.str ((if n = 0 ∧ t ≠ [] then [] else Lib.decDigits n) ++ t), H) := by
  intro f
  induction f with
  | zero => intro n v t H1 h; omega
  | succ f ih =>
    intro n v t H1 hf hn hv hc
    have hlen := hv.len
    by_cases hstop : n = 0 ∧ t ≠ []
    · rw [if_pos hstop, List.nil_append]
      obtain ⟨rfl, ht⟩ := hstop
      have h0 : ((t.length : Int) == 0) = false := beq_eq_false_iff_ne.2 (by have := List.length_pos_iff.2 ht; omega)
      refine loopW_done fun k => ?_
      have ts := hv.str
      unfold g112_l2
      simp -implicitDefEqProofs [hlen, h0, ts]
      exact gc_quiet hv.l rfl
    · rw [if_neg hstop]
      -- one digit more
      have hd : n % 10 < 10 := Nat.mod_lt _ (by decide)
      have hdig : (UInt8.ofNat (48 + n % 10)).toNat = 48 + n % 10 := by rw [UInt8.toNat_ofNat']; omega
      have hgo : (n : Int) > 0 ∨ ((t.length : Int) == 0) = true := by
        by_cases h0 : n = 0
        · right
          have : t = [] := Classical.byContradiction fun h => hstop ⟨h0, h⟩
          simp [this]
        · left; omega
      have hq : ∀ P t x y, M.bin P .quo t x y (.int .u32 (n : Nat)) (.int .u32 10) = .ok (.int .u32 ((n / 10 : Nat) : Int)) := fun P t x y => bin_quo32 P t x y (n := n) (d := 10) hn (by decide)
      have hr : ∀ P t x y, M.bin P .rem t x y (.int .u32 (n : Nat)) (.int .u32 10) = .ok (.int .u32 ((n % 10 : Nat) : Int)) := fun P t x y => bin_rem32 P t x y (n := n) (d := 10) (by decide)
      have w1 : IntKind.wrap .u32 (48 + ((n % 10 : Nat) : Int)) = ((48 + n % 10 : Nat) : Int) := by rw [wrap_u32 (by omega) (by omega)]; omega
      have w2 : IntKind.wrap .u8 ((48 + n % 10 : Nat) : Int) = ((48 + n % 10 : Nat) : Int) := wrap_u8 (by omega) (by omega)
      have hbd : [AV.int .u8 ((48 + n % 10 : Nat) : Int)] = bytes [UInt8.ofNat (48 + n % 10)] := by simp only [bytes, List.map_cons, List.map_nil, hdig]
      have hf1 : Own H (H1.alloc (.cells 5 [.int .u8 ((48 + n % 10 : Nat) : Int)])) (.sl H1.n 0 1 1) [UInt8.ofNat (48 + n % 10)] := ⟨.inr ⟨H1.n, 5, rfl, hv.n, by simp [Heap.alloc], by rw [Heap.get_alloc, if_pos rfl, hbd]⟩, by simp [Heap.alloc]; have := hv.n; omega, hv.l⟩
      have hcx := hv.cells (.cells 5 [.int .u8 ((48 + n % 10 : Nat) : Int)])
      -- the append, where what is appended is known in this memory alone
      obtain ⟨v', H2, e, hv2⟩ : ∃ v' H2, M.append 5 1 1 (.sl H1.n 0 1 1) v (H1.alloc (.cells 5 [.int .u8 ((48 + n % 10 : Nat) : Int)])) = .ok (v', H2) ∧ DV H H2 v' (UInt8.ofNat (48 + n % 10) :: t) := by
        obtain ⟨w, H2, e, o⟩ := hf1.app (src_isl t) (by simp; omega)
        have he : M.append 5 1 1 (.sl H1.n 0 1 1) v (H1.alloc (.cells 5 [.int .u8 ((48 + n % 10 : Nat) : Int)])) = M.append 5 1 1 (.sl H1.n 0 1 1) (.isl 1 (bytes t)) (H1.alloc (.cells 5 [.int .u8 ((48 + n % 10 : Nat) : Int)])) := by
          unfold M.append
          rw [hcx, src_isl t]
        exact ⟨w, H2, he.trans e, o.n, o.l, .inr o.f⟩
      have hf2 : n / 10 < f := by
        by_cases ht : t = []
        · rw [if_pos ht] at hf; omega
        · rw [if_neg ht] at hf
          have : n ≠ 0 := fun h0 => hstop ⟨h0, ht⟩
          omega
      have hnext := ih (n / 10) v' (UInt8.ofNat (48 + n % 10) :: t) H2 (by rw [if_neg (by simp)]; exact hf2) (by clear w1 w2 hbd hf1 hcx e; omega) hv2 (by simp; omega)
      have htext : (if n / 10 = 0 ∧ UInt8.ofNat (48 + n % 10) :: t ≠ [] then [] else Lib.decDigits (n / 10)) ++ UInt8.ofNat (48 + n % 10) :: t = Lib.decDigits n ++ t := by
        by_cases h10 : n < 10
        · rw [if_pos ⟨by omega, by simp⟩, decDigits_small h10, Nat.mod_eq_of_lt h10]; rfl
        · rw [if_neg (by omega), decDigits_big h10, List.append_assoc]; rfl
      rw [← htext]
      refine loopW_step (s' := _) (fun k => ?_) hnext
      have hconv : ∀ P, M.conv P 22 5 (.int .u32) (.int .u8) (.int .u32 ((48 + n % 10 : Nat) : Int)) = .ok (.int .u8 ((48 + n % 10 : Nat) : Int)) := fun P => by
        show Out.ok (AV.int .u8 (IntKind.wrap .u8 _)) = _
        rw [w2]
      unfold g112_l2
      rcases hgo with hgo | hgo
      · have hgo' : decide ((n : Int) > 0) = true := decide_eq_true hgo
        simp -implicitDefEqProofs only [List.getD_cons_zero, List.getD_cons_succ, bin_gtr, bind_ok, hgo', guard_tf, pick_tt, cond_tt, hr, bin_add, w1, hconv, M.fill, M.stc, M.over, AV.one, AV.cells, Nat.reduceMul, List.length_cons, List.length_nil, Nat.reduceAdd, Nat.reduceLeDiff, and_self, if_true, List.take_zero, List.nil_append, List.cons_append, List.drop_succ_cons, List.drop_zero, List.drop_nil, e, hq]
      · by_cases h0 : (n : Int) > 0
        · have hgo' : decide ((n : Int) > 0) = true := decide_eq_true h0
          simp -implicitDefEqProofs only [List.getD_cons_zero, List.getD_cons_succ, bin_gtr, bind_ok, hgo', guard_tf, pick_tt, cond_tt, hr, bin_add, w1, hconv, M.fill, M.stc, M.over, AV.one, AV.cells, Nat.reduceMul, List.length_cons, List.length_nil, Nat.reduceAdd, Nat.reduceLeDiff, and_self, if_true, List.take_zero, List.nil_append, List.cons_append, List.drop_succ_cons, List.drop_zero, List.drop_nil, e, hq]
        · have hgo' : decide ((n : Int) > 0) = false := decide_eq_false h0
          simp -implicitDefEqProofs only [List.getD_cons_zero, List.getD_cons_succ, bin_gtr, bind_ok, hgo', guard_ff, hlen, bin_eql, hgo, pick_ff, cond_tt, hr, bin_add, w1, hconv, M.fill, M.stc, M.over, AV.one, AV.cells, Nat.reduceMul, List.length_cons, List.length_nil, Nat.reduceAdd, Nat.reduceLeDiff, and_self, if_true, List.take_zero, List.nil_append, List.cons_append, List.drop_succ_cons, List.drop_zero, List.drop_nil, e, hq]
theorem s_decimal {n : Nat} (hn : n < 4294967296) (H : Heap) : W m 112 [.int .u32 n] H = .ok (.str (Lib.decDigits n), H) := by
  refine c112 rfl _ H ?_
  unfold g112
  have := dec_loop (m := m) H (n + 2) n (.isl 1 []) [] H.start (by simp) hn ⟨Nat.le_refl _, Nat.le_refl _, .inl ⟨rfl, rfl⟩⟩ (by simp; omega)
  simpa using this
theorem decDigits_length (f : Nat) : ∀ u, u < 10 ^ f → (Lib.decDigits u).length ≤ f + 1 := by
  induction f with
  | zero => intro u h; rw [decDigits_small (by simpa using Nat.lt_of_lt_of_le h (by decide))]; simp
  | succ f ih =>
    intro u h
    by_cases h10 : u < 10
    · rw [decDigits_small h10]; simp
    · rw [decDigits_big h10, List.length_append]
      have := ih (u / 10) (by rw [Nat.pow_succ] at h; omega)
      simp; omega
end Go.Proofs.YtnhblghplohonaaGreatDoor.Ab
