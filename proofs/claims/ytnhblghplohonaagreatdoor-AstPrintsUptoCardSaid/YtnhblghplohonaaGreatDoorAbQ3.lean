/- The functions that are answered by contracts: what the machine says of them is so. -/
import Derived.Test.YtnhblghplohonaaGreatDoorAbP
import Derived.Test.YtnhblghplohonaaGreatDoorAbQ1
import Derived.Test.YtnhblghplohonaaGreatDoorAbQ2
set_option linter.unusedSimpArgs false
set_option linter.unusedVariables false
namespace Go.Proofs.YtnhblghplohonaaGreatDoor.Ab
open Go

/-- A contract in the kit's words is an answer. -/
theorem answers_of_calls {P : Program} {f : Nat} {fn : Func} {cargs : List Value} {w : World} {R : Value → World → Prop} (hf : P.funcs[f]? = some fn) (hb : fn.body.isSome = true) (hn : (fn.name == "runtime.NumGoroutine") = false)
    (h : Calls P f ⟨cargs⟩ w fun e w' => ∃ v, e = .returned v ∧ R v w') : Answers P f cargs w R := by
  intro o a next Q hnx
  have hrun : (callFunc f ⟨cargs⟩).run P w = .ok (.enter f ⟨cargs⟩) w := by
    have hbn : fn.body.isNone = false := by cases hc : fn.body <;> simp_all
    simp only [callFunc, Sem.run_bind, run_program, Result.andThen_ok, hf, hn, hbn, Bool.false_eq_true, if_false, Sem.run_pure]
  rw [hrun]
  show Calls P f ⟨cargs⟩ w _
  refine h.mono ?_
  rintro e w' ⟨v, rfl, hr⟩
  exact hnx v w' hr

/-- A package's variable of one cell that nobody writes. -/
theorem glob_cell {X : Ctx} {g : Gh} {L : Locs} {H : Heap} {w : World} (R : Rel g L H w.heap) (hG : GlobOk X g) {i : Nat} {cs : List AV} (h : X.glob i = some cs) {j : Nat} {k : IntKind} {n : Int} (hj : cs[j]? = some (.int k n)) : w.cell? ⟨i, j, none⟩ = some (.int k n) := by
  have h1 := (hG i cs h).1
  generalize hv : Value.pointer (some ⟨i, 0, none⟩) = v at h1
  cases h1 with
  | iptr cv hi hr =>
    cases hv
    obtain ⟨h2, _⟩ := hi j _ hj
    have h3 := hr j _ hj
    generalize hc : cv j = u at h2 h3
    cases h3
    unfold cellI at h2
    split at h2
    · rename_i c e fz hI
      have h4 := (R.fr _ _ (R.im _ _ hI)).1
      unfold World.cell?
      simp only [h4]
      simpa using h2
    · cases h2
/-- .. and a table. -/
theorem glob_tab {X : Ctx} {g : Gh} {L : Locs} {H : Heap} {w : World} (R : Rel g L H w.heap) (hG : GlobOk X g) {i : Nat} {k : IntKind} {zs : List Int} (h : X.glob i = some (zs.map (.int k))) {P : Program} {name : String} (hn : P.globalNamed name = some i) : Lib.TabIs P w name k zs := by
  obtain ⟨c, e, fz, hI, hsz⟩ := (hG i _ h).2
  have h4 := (R.fr _ _ (R.im _ _ hI)).1
  unfold Lib.TabIs World.var?
  rw [hn]
  simp only [Option.bind_some, h4]
  congr 1
  apply Array.ext_getElem?
  intro j
  simp only [List.getElem?_toArray, List.getElem?_map]
  rw [List.length_map] at hsz
  by_cases hj : j < zs.length
  · have h5 := glob_cell R hG h (j := j) (k := k) (n := zs[j]) (by simp [List.getElem?_eq_getElem hj])
    unfold World.cell? at h5
    simp only [h4] at h5
    rw [List.getElem?_eq_getElem hj]
    simpa using h5
  · rw [List.getElem?_eq_none (by omega), Array.getElem?_eq_none (by omega)]; rfl
theorem Rel.more {g : Gh} {L : Locs} {H : Heap} {h h' : Array Obj} (R : Rel g L H h) (hs : h.size ≤ h'.size) (he : ∀ cb, cb < h.size → h'[cb]? = h[cb]?) : Rel g L H h' := by
  refine ⟨fun cb x hx => ?_, R.im, R.dom, fun b x hb => ?_, fun j cs hj => ?_, fun cb x hx => Nat.lt_of_lt_of_le (R.own cb x hx) hs⟩
  · obtain ⟨a, b⟩ := R.fr cb x hx
    exact ⟨(he cb (some_lt a)).trans a, b⟩
  · obtain ⟨cb, base, top, h1, h2, h3⟩ := R.blk b x hb
    exact ⟨cb, base, top, h1, h2, h3.of_heap (he cb (R.own cb _ h2))⟩
  · obtain ⟨cb, arr, h1, h2, h3, h4⟩ := R.loc j cs hj
    exact ⟨cb, arr, h1, h2, h3.of_heap (he cb (R.own cb _ h2)), h4⟩

variable {m : Int}
set_option maxRecDepth 100000 in
theorem contains_good : GoodAt (XX m) 98 containsP := by
  refine ⟨fun args H v H' h g w cargs R hG ha => ?_⟩
  unfold containsP at h
  split at h
  · rename_i s t
    split at h
    · rename_i hs
      cases h
      obtain ⟨u1, h1, r1⟩ := ha.get (j := 0) rfl
      obtain ⟨u2, h2, r2⟩ := ha.get (j := 1) rfl
      cases r1
      cases r2
      have hcargs : cargs = [.string ⟨⟨s⟩⟩, .string ⟨⟨t⟩⟩] := by
        have hl := ha.1
        match cargs, hl with
        | [x, y], _ => simp at h1 h2; rw [h1, h2]
      subst hcargs
      refine answers_of_calls Tryz.func98 (by kernel_rfl) (by kernel_rfl) ((Tryz.strings_Contains ⟨⟨s⟩⟩ ⟨⟨t⟩⟩ m w (by simpa [ByteArray.size] using hs) (glob_cell R hG (i := 0) (cs := [.int .i64 m]) rfl (j := 0) rfl)).mono ?_)
      rintro e w' ⟨rfl, rfl⟩
      exact ⟨_, rfl, g, .refl g, R, .bool _, .refl H⟩
    · cases h
  · cases h
set_option maxRecDepth 100000 in
theorem indexByte_good : GoodAt (XX m) 126 indexByteP := by
  refine ⟨fun args H v H' h g w cargs R hG ha => ?_⟩
  unfold indexByteP at h
  split at h
  · rename_i s c
    cases h
    obtain ⟨u1, h1, r1⟩ := ha.get (j := 0) rfl
    obtain ⟨u2, h2, r2⟩ := ha.get (j := 1) rfl
    cases r1
    cases r2
    have hcargs : cargs = [.string ⟨⟨s⟩⟩, .int .u8 c] := by
      have hl := ha.1
      match cargs, hl with
      | [x, y], _ => simp at h1 h2; rw [h1, h2]
    subst hcargs
    refine answers_of_calls Tryz.func126 (by kernel_rfl) (by kernel_rfl) ((Tryz.strings_IndexByte ⟨⟨s⟩⟩ c w).mono ?_)
    rintro e w' ⟨rfl, rfl⟩
    exact ⟨_, rfl, g, .refl g, R, .int _ _, .refl H⟩
  · cases h
set_option maxRecDepth 100000 in
theorem repeat_good : GoodAt (XX m) 56 repeatP := by
  refine ⟨fun args H v H' h g w cargs R hG ha => ?_⟩
  unfold repeatP at h
  split at h
  · rename_i s n
    obtain ⟨u1, h1, r1⟩ := ha.get (j := 0) rfl
    obtain ⟨u2, h2, r2⟩ := ha.get (j := 1) rfl
    cases r1
    cases r2
    have hcargs : cargs = [.string ⟨⟨s⟩⟩, .int .i64 n] := by
      have hl := ha.1
      match cargs, hl with
      | [x, y], _ => simp at h1 h2; rw [h1, h2]
    subst hcargs
    split at h
    · rename_i hn
      subst hn
      cases h
      refine answers_of_calls Tryz.func56 (by kernel_rfl) (by kernel_rfl) ((Tryz.strings_Repeat_zero ⟨⟨s⟩⟩ w).mono ?_)
      rintro e w' ⟨rfl, rfl⟩
      exact ⟨_, rfl, g, .refl g, R, .str _, .refl H⟩
    · split at h
      · rename_i hn
        obtain ⟨rfl, _⟩ := hn
        cases h
        refine answers_of_calls Tryz.func56 (by kernel_rfl) (by kernel_rfl) ((Tryz.strings_Repeat_one ⟨⟨s⟩⟩ w).mono ?_)
        rintro e w' ⟨rfl, rfl⟩
        exact ⟨_, rfl, g, .refl g, R, .str _, .refl H⟩
      · cases h
  · cases h
theorem pow10_eq : pow10 = Lib.pow10Tab.map (.int .u64) := rfl
theorem gl_pow10 : (XX m).glob 1 = some (Lib.pow10Tab.map (.int .u64)) := by
  show gl m 1 = _
  rw [← pow10_eq]; rfl
set_option maxRecDepth 100000 in
theorem format_good : GoodAt (XX m) 118 formatUintP := by
  refine ⟨fun args H v H' h g w cargs R hG ha => ?_⟩
  unfold formatUintP at h
  split at h
  · rename_i n b
    split at h
    · rename_i hh
      obtain ⟨rfl, hn0, hn⟩ := hh
      cases h
      obtain ⟨u1, h1, r1⟩ := ha.get (j := 0) rfl
      obtain ⟨u2, h2, r2⟩ := ha.get (j := 1) rfl
      cases r1
      cases r2
      have hcargs : cargs = [.int .u64 n, .int .i64 10] := by
        have hl := ha.1
        match cargs, hl with
        | [x, y], _ => simp at h1 h2; rw [h1, h2]
      subst hcargs
      obtain ⟨u, rfl⟩ : ∃ u : Nat, n = u := ⟨n.toNat, by omega⟩
      refine answers_of_calls Tryz.func118 (by kernel_rfl) (by kernel_rfl) ((q_formatUint' u (by omega) w (glob_tab R hG gl_pow10 (by kernel_rfl))).mono ?_)
      rintro e w' ⟨rfl, k, os, rfl⟩
      refine ⟨_, rfl, g, .refl g, R.more (by simp [Sort.grow, World.drewN]) (fun cb hcb => ?_), .str _, ⟨.refl H, rfl, rfl⟩⟩
      simp only [Sort.grow, World.drewN]
      exact Array.getElem?_append_left hcb
    · cases h
  · cases h

theorem keep_setCells (b : Nat) : ∀ (vs : List Value) (o : Nat) (w : World), Keep w (w.setCells b o vs)
  | [], _, w => .refl w
  | v :: vs, o, w => (Keep.mk rfl rfl : Keep w (w.setCell ⟨b, o, none⟩ v)).trans (keep_setCells b vs (o + 1) _)
theorem keep_drew (w : World) : Keep w w.drew := ⟨rfl, rfl⟩
/-- Cells that are set one by one. -/
theorem setCells_heap {cb : Nat} {e : TypeId} {fz : Nat × Nat} : ∀ (vs : List Value) (o : Nat) (w : World) (arr : Array Value), w.heap[cb]? = some (.cells arr e fz) → o + vs.length ≤ arr.size →
    ∃ arr' : Array Value, (w.setCells cb o vs).heap = w.heap.setIfInBounds cb (.cells arr' e fz) ∧ arr'.size = arr.size ∧ ∀ j, arr'[j]? = if j < o then arr[j]? else if j < o + vs.length then vs[j - o]? else arr[j]?
  | [], o, w, arr, h, _ => by
    refine ⟨arr, ?_, rfl, fun j => by
      by_cases h1 : j < o
      · rw [if_pos h1]
      · rw [if_neg h1, if_neg (by simpa using h1)]⟩
    show w.heap = _
    apply Array.ext_getElem?
    intro j
    rw [Array.getElem?_setIfInBounds]
    split
    · rename_i hj; subst hj; rw [if_pos (some_lt h), h]
    · rfl
  | v :: vs, o, w, arr, h, hl => by
    have hlt := some_lt h
    have hset : (w.setCell ⟨cb, o, none⟩ v).heap = w.heap.setIfInBounds cb (.cells (arr.setIfInBounds o v) e fz) := by
      unfold World.setCell
      apply Array.ext_getElem?
      intro j
      simp only
      rw [Array.getElem?_modify, Array.getElem?_setIfInBounds]
      split
      · rename_i h'; subst h'; rw [h]; simp
      · rfl
    rw [List.length_cons] at hl
    obtain ⟨arr', h1, h2, h3⟩ := setCells_heap (cb := cb) (e := e) (fz := fz) vs (o + 1) (w.setCell ⟨cb, o, none⟩ v) (arr.setIfInBounds o v) (by rw [hset, set_get, if_pos rfl, if_pos hlt]) (by simp; omega)
    refine ⟨arr', ?_, by rw [h2]; simp, fun j => ?_⟩
    · rw [World.setCells, h1, hset]
      apply Array.ext_getElem?
      intro j
      simp only [Array.getElem?_setIfInBounds, Array.size_setIfInBounds]
      split <;> rfl
    · rw [h3 j, List.length_cons]
      simp only [Array.getElem?_setIfInBounds]
      by_cases h4 : j < o
      · rw [if_pos (by omega), if_pos h4, if_neg (by omega)]
      · rw [if_neg h4]
        by_cases h5 : j = o
        · subst h5
          rw [if_pos (by omega), if_pos rfl, if_pos (by omega), if_pos (by omega)]
          simp
        · rw [if_neg (show ¬ j < o + 1 by omega)]
          by_cases h6 : j < o + 1 + vs.length
          · rw [if_pos h6, if_pos (by omega)]
            obtain ⟨q, rfl⟩ : ∃ q, j = o + 1 + q := ⟨j - (o + 1), by omega⟩
            rw [show o + 1 + q - (o + 1) = q by omega, show o + 1 + q - o = q + 1 by omega]
            rfl
          · rw [if_neg h6, if_neg (by omega), if_neg (by omega)]
set_option maxRecDepth 100000 in
theorem insert_good : GoodAt (XX m) 104 insertP := by
  refine ⟨fun args H v H' h g w cargs R hG ha => ?_⟩
  unfold insertP at h
  split at h
  · rename_i b off n i b' off'
    split at h
    · rename_i e0 cs e0' cs' g1 g2
      split at h
      · rename_i c hc
        split at h
        · rename_i hh
          obtain ⟨hne, hi0, hin, hlen, hn40⟩ := hh
          cases h
          obtain ⟨u1, k1, r1⟩ := ha.get (j := 0) rfl
          obtain ⟨u2, k2, r2⟩ := ha.get (j := 1) rfl
          obtain ⟨u3, k3, r3⟩ := ha.get (j := 2) rfl
          cases r2
          obtain ⟨j, rfl⟩ : ∃ j : Nat, i = j := ⟨i.toNat, by omega⟩
          have hjn : j < n := by omega
          cases r1 with
          | sl hρ hl hA =>
            rename_i cb base top cap A
            cases r3 with
            | sl hρ' hl' hA' =>
              rename_i cb' base' top' cap' A'
              obtain ⟨rfl, hcap⟩ := hA (by omega)
              obtain ⟨rfl, hcap'⟩ := hA' (by omega)
              have hcargs : cargs = [.slice (some ⟨cb, base + off, none⟩) n cap, .int .i64 j, .slice (some ⟨cb', base' + off', none⟩) 1 cap'] := by
                have hl := ha.1
                match cargs, hl with
                | [x, y, z], _ => simp at k1 k2 k3; rw [k1, k2, k3]
              subst hcargs
              obtain ⟨cb1, base1, top1, q1, q2, arr, ⟨ec, fz, q3, q3'⟩, q4, q5, q6⟩ := R.blk b _ g1
              rw [hρ] at q1; cases q1
              obtain ⟨cb2, base2, top2, p1, p2, arr', ⟨ec', fz', p3, p3'⟩, p4, p5, p6⟩ := R.blk b' _ g2
              rw [hρ'] at p1; cases p1
              have hcb : cb' ≠ cb := fun e => by
                subst e
                rw [q2] at p2
                cases p2
                exact hne rfl
              obtain ⟨x, x1, x2, x3⟩ := p6 off' c hc
              have hsz : (arr.toList).length = arr.size := by simp
              obtain ⟨cv, hcv⟩ : ∃ cv : List Value, cv = (arr.toList.drop (base + off)).take n := ⟨_, rfl⟩
              have hcl : cv.length = n := by rw [hcv]; simp; omega
              have hget : ∀ t, t < n → cv[t]? = arr[base + off + t]? := fun t ht => by
                rw [hcv, List.getElem?_take, if_pos ht, List.getElem?_drop, Array.getElem?_toList]
              have hreps : Reps g ((cs.drop off).take n) cv := by
                refine ⟨by rw [hcl]; simp; omega, fun t c' v' h1 h2 => ?_⟩
                have htn : t < n := by have := (List.getElem?_eq_some_iff.1 h2).1; omega
                rw [List.getElem?_take, if_pos htn, List.getElem?_drop] at h1
                obtain ⟨v2, a1, a2, a3⟩ := q6 _ _ h1
                rw [hget t htn, Nat.add_assoc, a1] at h2
                cases h2
                exact a2
              have hone : ∀ v' ∈ cv, v'.oneCell' = true := fun v' hv' => by
                obtain ⟨t, ht, rfl⟩ := List.getElem_of_mem hv'
                have htn : t < n := by omega
                obtain ⟨v2, a1, a2, a3⟩ := q6 (off + t) _ (List.getElem?_eq_getElem (show off + t < cs.length by omega))
                have h2 := hget t htn
                rw [Nat.add_assoc, a1, List.getElem?_eq_getElem ht] at h2
                cases h2
                exact a3
              have hrep2 : Reps g (((cs.drop off).take n).take j ++ c :: ((cs.drop off).take n).drop j) (cv.take j ++ x :: cv.drop j) := (hreps.take j).append (.cons x2 (hreps.drop j))
              have hone2 : ∀ v' ∈ cv.take j ++ x :: cv.drop j, v'.oneCell' = true := fun v' hv' => by
                rcases List.mem_append.1 hv' with h | h
                · exact hone v' (List.mem_of_mem_take h)
                · rcases List.mem_cons.1 h with rfl | h
                  · exact x3
                  · exact hone v' (List.mem_of_mem_drop h)
              have hlen2 : (cv.take j ++ x :: cv.drop j).length = n + 1 := by simp; omega
              have hcell : ∀ t v', cv[t]? = some v' → w.cell? ⟨cb, base + off + t, none⟩ = some v' := fun t v' ht => by
                have htn : t < n := by have := (List.getElem?_eq_some_iff.1 ht).1; omega
                rw [hget t htn] at ht
                simp only [World.cell?, q3]
                simpa using ht
              have hxc : w.cell? ⟨cb', base' + off', none⟩ = some x := by
                simp only [World.cell?, p3]
                simpa using x1
              have hxlt : base' + off' < arr'.size := by
                have := (Array.getElem?_eq_some_iff.1 x1).1; omega
              have hstep : Step H ((H.kill b).alloc (.cells 5 (((cs.drop off).take n).take (j : Int).toNat ++ c :: ((cs.drop off).take n).drop (j : Int).toNat))) := (Step.kill H b).trans (Step.alloc _ _)
              rw [Int.toNat_natCast] at hstep ⊢
              -- the row as it is read
              have hmid : ∀ t, t < n + 1 → (cv.take j ++ x :: cv.drop j)[t]? = if t < j then cv[t]? else if t = j then some x else cv[t - 1]? := fun t ht => by
                by_cases h1 : t < j
                · rw [if_pos h1, List.getElem?_append_left (by simp; omega), List.getElem?_take, if_pos h1]
                · rw [if_neg h1, List.getElem?_append_right (by simp; omega)]
                  have hl : (cv.take j).length = j := by simp; omega
                  rw [hl]
                  by_cases h2 : t = j
                  · subst h2; simp
                  · rw [if_neg h2]
                    obtain ⟨q, rfl⟩ : ∃ q, t = j + 1 + q := ⟨t - (j + 1), by omega⟩
                    rw [show j + 1 + q - j = q + 1 by omega, List.getElem?_cons_succ, List.getElem?_drop, show j + 1 + q - 1 = j + q by omega]
              by_cases hroom : n + 1 ≤ cap
              · have hsp : ∀ t, t < n + 1 → (w.cell? ⟨cb, base + off + t, none⟩).isSome = true := fun t ht => by
                  simp only [World.cell?, q3]
                  rw [Array.getElem?_eq_getElem (show base + off + t < arr.size by omega)]; rfl
                have hfr : ∀ t, t < n + 1 → w.frozen? ⟨cb, base + off + t, none⟩ = false := fun t ht => by
                  have := q3' (base + off + t) (by omega)
                  simp only [World.frozen?, q3]
                  simpa using this
                refine answers_of_calls Tryz.func104 (by kernel_rfl) (by kernel_rfl) ((q_insert_shift cb (base + off) n cap j cb' (base' + off') cap' cv x w hjn hroom hn40 hcb hcl hcell hsp hfr hxc hone x3
                  ec' ec arr'.size arr.size (by simp [World.shape?, p3]) (by simp [World.shape?, q3]) (by omega) (by
                    have := p3' (base' + off') (by omega)
                    simp only [World.frozen?, p3]
                    simpa using this) (by
                    have := p3' arr'.size (Nat.le_refl _)
                    simp only [World.frozen?, p3]
                    simpa using this)).mono ?_)
                rintro e w' ⟨rfl, rfl⟩
                obtain ⟨a1, s1, s2, s3⟩ := setCells_heap (e := ec) (fz := fz) (cv.drop j) (base + off + (j + 1)) w.drew arr q3 (by rw [List.length_drop]; omega)
                obtain ⟨a2, s4, s5, s6⟩ := setCells_heap (cb := cb) (e := ec) (fz := fz) [x] (base + off + j) (w.drew.setCells cb (base + off + (j + 1)) (cv.drop j)) a1 (by rw [s1, set_get, if_pos rfl]; exact if_pos (some_lt q3)) (by simp; omega)
                have hheap : ((w.drew.setCells cb (base + off + (j + 1)) (cv.drop j)).setCells cb (base + off + j) [x]).heap = w.heap.setIfInBounds cb (.cells a2 ec fz) := by
                  rw [s4, s1]
                  apply Array.ext_getElem?
                  intro t
                  simp only [Array.getElem?_setIfInBounds, Array.size_setIfInBounds]
                  show (if cb = t then if cb < w.heap.size then _ else _ else if cb = t then _ else w.heap[t]?) = _
                  split <;> rfl
                have hrow : ∀ t, t < n + 1 → a2[base + off + t]? = (cv.take j ++ x :: cv.drop j)[t]? := fun t ht => by
                  rw [hmid t ht, s6, s3, List.length_drop, List.length_cons, List.length_nil]
                  by_cases h1 : t < j
                  · rw [if_pos (by omega), if_pos (by omega), if_pos h1, hget t (by omega)]
                  · rw [if_neg (by omega), if_neg h1]
                    by_cases h2 : t = j
                    · subst h2; rw [if_pos (by omega), if_pos rfl]; simp
                    · rw [if_neg (by omega), if_neg (by omega), if_pos (by omega), if_neg h2, List.getElem?_drop]
                      congr 1; omega
                have hext := Gh.turn_ext R cb (base + off) arr.size
                refine ⟨_, rfl, g.turn H.n cb (base + off) arr.size, hext, ?_, ?_, hstep, (Keep.mk rfl rfl : Keep w w.drew).trans ((keep_setCells _ _ _ _).trans (keep_setCells _ _ _ _))⟩
                · rw [hheap]
                  refine R.turn q2 ⟨a2, ⟨ec, fz, by rw [set_get, if_pos rfl, if_pos (some_lt q3)], by rw [s5, s2]; exact q3'⟩, by rw [s5, s2], ?_, fun t c' ht => ?_⟩
                  · rw [hrep2.1, hlen2]; omega
                  · obtain ⟨v', hv1, hv2⟩ := hrep2.get ht
                    have htl := (List.getElem?_eq_some_iff.1 hv1).1
                    exact ⟨v', by rw [hrow t (by omega)]; exact hv1, hv2.mono hext, hone2 v' (List.mem_of_getElem? hv1)⟩
                · exact .sl (cb := cb) (base := base + off) (top := arr.size) (by simp [Gh.turn]) hroom (fun _ => ⟨by simp, by omega⟩)
              · refine answers_of_calls Tryz.func104 (by kernel_rfl) (by kernel_rfl) ((q_insert_grow cb (base + off) n cap j cb' (base' + off') cap' cv x w hjn hl (by omega) (by omega) hcl hcell hxc hone x3).mono ?_)
                rintro e w' ⟨rfl, rfl⟩
                have hGn : n + 1 ≤ grownCap w (n + 1) cap 5 := grownCap_ge w _ _ _
                generalize grownCap w (n + 1) cap 5 = G at hGn ⊢
                obtain ⟨ROW, hROW⟩ : ∃ ROW : Array Value, ROW = (cv.take j).toArray ++ Builtin.zeroCells (Value.int .u8 0).cells (n + 1 - j) ++ Builtin.zeroCells (Value.int .u8 0).cells (G - (n + 1)) := ⟨_, rfl⟩
                rw [← hROW]
                have hRs : ROW.size = G := by rw [hROW]; simp [zeroCells_size, Value.cells]; omega
                have hRj : ∀ t, t < j → ROW[t]? = cv[t]? := fun t ht => by
                  rw [hROW, Array.getElem?_append_left (by simp; omega), Array.getElem?_append_left (by simp; omega)]
                  simp [List.getElem?_take, ht]
                have hpush : ((w.alloc (.cells ROW 5)).drew).heap = w.heap.push (.cells ROW 5 (0, 0)) := rfl
                obtain ⟨a1, s1, s2, s3⟩ := setCells_heap (cb := w.heap.size) (e := 5) (fz := (0, 0)) [x] j ((w.alloc (.cells ROW 5)).drew) ROW (by rw [hpush]; simp) (by simp; omega)
                obtain ⟨a2, s4, s5, s6⟩ := setCells_heap (cb := w.heap.size) (e := 5) (fz := (0, 0)) (cv.drop j) (j + 1) ((w.alloc (.cells ROW 5)).drew.setCells w.heap.size j [x]).drew a1 (by show ((w.alloc (.cells ROW 5)).drew.setCells w.heap.size j [x]).heap[w.heap.size]? = _; rw [s1, hpush, set_get, if_pos rfl, if_pos (by simp)]) (by rw [List.length_drop]; omega)
                have hheap : (((w.alloc (.cells ROW 5)).drew.setCells w.heap.size j [x]).drew.setCells w.heap.size (j + 1) (cv.drop j)).heap = w.heap.push (.cells a2 5 (0, 0)) := by
                  rw [s4]
                  show ((w.alloc (.cells ROW 5)).drew.setCells w.heap.size j [x]).heap.setIfInBounds _ _ = _
                  rw [s1, hpush]
                  apply Array.ext_getElem?
                  intro t
                  simp only [Array.getElem?_setIfInBounds, Array.size_setIfInBounds, Array.getElem?_push, Array.size_push]
                  by_cases h1 : w.heap.size = t
                  · subst h1; simp
                  · rw [if_neg h1, if_neg h1, if_neg (fun e => h1 e.symm), if_neg (fun e => h1 e.symm)]
                have hrow : ∀ t, t < n + 1 → a2[t]? = (cv.take j ++ x :: cv.drop j)[t]? := fun t ht => by
                  rw [hmid t ht, s6, s3, List.length_drop, List.length_cons, List.length_nil]
                  by_cases h1 : t < j
                  · rw [if_pos (show t < j + 1 by omega), if_pos h1, if_pos h1, hRj t h1]
                  · by_cases h2 : t = j
                    · subst h2; simp
                    · rw [if_neg (show ¬ t < j + 1 by omega), if_pos (show t < j + 1 + (cv.length - j) by omega), if_neg h1, if_neg h2, List.getElem?_drop]
                      congr 1; omega
                have hext := Gh.alloc_ext (R.kill b) a2.size
                have RR := (R.kill b).alloc (e := 5) (e' := 5) (fz := (0, 0)) (arr := a2) hrep2 hone2 (fun t ht => by rw [hlen2] at ht; exact hrow t ht) (by rw [hlen2, s5, s2, hRs]; exact hGn) (fun i _ => by omega)
                refine ⟨_, rfl, _, hext, by rw [hheap]; exact RR, ?_, hstep, ((Keep.mk rfl rfl : Keep w (w.alloc (.cells ROW 5)).drew).trans (keep_setCells w.heap.size [x] j _)).trans ((keep_drew _).trans (keep_setCells w.heap.size (cv.drop j) (j + 1) _))⟩
                exact .sl (cb := w.heap.size) (base := 0) (top := a2.size) (by simp [Gh.alloc, Heap.kill]) hGn (fun _ => ⟨by simp, by rw [s5, s2, hRs]; omega⟩)
        · cases h
      · cases h
    · cases h
  · cases h
theorem pr_good : ∀ i p, pr i = some p → GoodAt (XX m) i p := by
  intro i p h
  unfold pr at h
  split at h
  · rename_i e; subst e; cases h; exact contains_good
  split at h
  · rename_i e; subst e; cases h; exact repeat_good
  split at h
  · rename_i e; subst e; cases h; exact format_good
  split at h
  · rename_i e; subst e; cases h; exact indexByte_good
  split at h
  · rename_i e; subst e; cases h; exact insert_good
  cases h
end Go.Proofs.YtnhblghplohonaaGreatDoor.Ab
