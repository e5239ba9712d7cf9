/- Functions of the program as plain functions over the abstract machine's values. (Printed by a program of this session: gen.py.) -/
import Derived.Test.YtnhblghplohonaaGreatDoorAbX
set_option linter.unusedSimpArgs false
set_option linter.unusedVariables false
namespace Go.Proofs.YtnhblghplohonaaGreatDoor.Ab
open Go
/- crucible/cruciblelaw08.AstPrints -/
noncomputable def g3 (Γ : CallsT) (lp : LoopT Ans) (p0_0 : Int) (p0_1 : (List UInt8)) (p0_2 : Int) (p0_3 : Bool) (p0_4 : AV) (p0_5 : Int) (H : Heap) : Out Ans :=
  (Γ 5 [(.agg [(.int .i64 p0_0), (.str p0_1), (.int .u32 p0_2), (.bool p0_3), p0_4, (.int .i64 p0_5)])] H.start).bind fun r1 =>
  (M.extract 0 r1.1).bind fun v2 =>
  (M.extract 1 r1.1).bind fun v3 =>
  (Γ 6 [(.agg [(.int .i64 p0_0), (.str p0_1), (.int .u32 p0_2), (.bool p0_3), p0_4, (.int .i64 p0_5)])] r1.2).bind fun r4 =>
  (M.extract 0 r4.1).bind fun v5 =>
  (M.extract 1 r4.1).bind fun v6 =>
  (M.bin Tryz.prog .eql 9 (.tmp 17) (.tmp 18) v2 v5).bind fun v7 =>
  (guardEv (some (.val v7)) true
  (.ok (v3, r4.2))
  (.ok (undefA, r4.2))).bind fun q8 =>
  (guardEv (some (.val v7)) true
  (.ok (v6, q8.2))
  (.ok (undefA, q8.2))).bind fun q9 =>
  (guardEv (some (.val v7)) true
  ((M.bin Tryz.prog .eql 26 (.tmp 21) (.tmp 22) q8.1 q9.1).bind fun v10 =>
  .ok (v10, q9.2))
  (.ok (undefA, q9.2))).bind fun q11 =>
  (M.pick v7 q11.1 (.bool false)).bind fun v12 =>
  (guardEv (some (.val v12)) true
  ((Γ 7 [] q11.2).bind fun r13 =>
  .ok (r13.1, r13.2))
  (.ok (undefA, q11.2))).bind fun q14 =>
  (M.pick v12 q14.1 (.bool false)).bind fun v15 =>
  .ok (gc v15 H q14.2)
theorem u3 {glob : Nat → Option (List AV)} {prim : Nat → Option (List AV → Heap → Out (AV × Heap))} (hp : prim 3 = none) (Γ : CallsT) (lp : LoopT Ans) (p0_0 : Int) (p0_1 : (List UInt8)) (p0_2 : Int) (p0_3 : Bool) (p0_4 : AV) (p0_5 : Int) (H : Heap) : runF (X0 glob prim) lp Γ 3 [(.agg [(.int .i64 p0_0), (.str p0_1), (.int .u32 p0_2), (.bool p0_3), p0_4, (.int .i64 p0_5)])] H = g3 Γ lp p0_0 p0_1 p0_2 p0_3 p0_4 p0_5 H :=
  (runF_run hp (show trieF.get 3 = some Tryz.f3 by kernel_rfl) (by kernel_rfl) (by kernel_rfl)).trans (by kernel_rfl)
theorem c3 {glob : Nat → Option (List AV)} {prim : Nat → Option (List AV → Heap → Out (AV × Heap))} (hp : prim 3 = none) (p0_0 : Int) (p0_1 : (List UInt8)) (p0_2 : Int) (p0_3 : Bool) (p0_4 : AV) (p0_5 : Int) (H : Heap) {r : Ans} (h : g3 (callW (X0 glob prim)) loopW p0_0 p0_1 p0_2 p0_3 p0_4 p0_5 H = .ok r) : callW (X0 glob prim) 3 [(.agg [(.int .i64 p0_0), (.str p0_1), (.int .u32 p0_2), (.bool p0_3), p0_4, (.int .i64 p0_5)])] H = .ok r := callW_of ((u3 hp ..).trans h)
/- crucible/cruciblelaw08.AstPlaces -/
noncomputable def g4 (Γ : CallsT) (lp : LoopT Ans) (p0_0 : Int) (p0_1 : (List UInt8)) (p0_2 : Int) (p0_3 : Bool) (p0_4 : AV) (p0_5 : Int) (p1 : Int) (H : Heap) : Out Ans :=
  (Γ 8 [(.agg [(.int .i64 p0_0), (.str p0_1), (.int .u32 p0_2), (.bool p0_3), p0_4, (.int .i64 p0_5)])] H.start).bind fun r1 =>
  (M.bin Tryz.prog .eql 3 (.tmp 11) (.const (.int .i64 0)) r1.1 (.int .i64 0)).bind fun v2 =>
  condEv v2
  ((Γ 7 [] r1.2).bind fun r3 =>
  .ok (gc r3.1 H r3.2))
  ((Γ 9 [(.agg [(.int .i64 p0_0), (.str p0_1), (.int .u32 p0_2), (.bool p0_3), p0_4, (.int .i64 p0_5)]), (.int .i64 p1)] r1.2).bind fun r4 =>
  (M.stc 6 [(.int .i64 0), (.str []), (.int .u32 0), (.bool false), nilSlice, (.int .i64 0)] 0 r4.1).bind fun cs5 =>
  (Γ 5 [(.agg [(.int .i64 p0_0), (.str p0_1), (.int .u32 p0_2), (.bool p0_3), p0_4, (.int .i64 p0_5)])] r4.2).bind fun r6 =>
  (M.extract 0 r6.1).bind fun v7 =>
  (M.extract 1 r6.1).bind fun v8 =>
  (M.ldc true 6 cs5 0).bind fun v9 =>
  (Γ 5 [v9] r6.2).bind fun r10 =>
  (M.extract 0 r10.1).bind fun v11 =>
  (M.extract 1 r10.1).bind fun v12 =>
  (M.ldc true 6 cs5 0).bind fun v13 =>
  (Γ 10 [(.agg [(.int .i64 p0_0), (.str p0_1), (.int .u32 p0_2), (.bool p0_3), p0_4, (.int .i64 p0_5)]), v13] r10.2).bind fun r14 =>
  (guardEv (some (.val r14.1)) true
  (.ok (v7, r14.2))
  (.ok (undefA, r14.2))).bind fun q15 =>
  (guardEv (some (.val r14.1)) true
  (.ok (v11, q15.2))
  (.ok (undefA, q15.2))).bind fun q16 =>
  (guardEv (some (.val r14.1)) true
  ((M.bin Tryz.prog .eql 9 (.tmp 31) (.tmp 32) q15.1 q16.1).bind fun v17 =>
  .ok (v17, q16.2))
  (.ok (undefA, q16.2))).bind fun q18 =>
  (M.pick r14.1 q18.1 (.bool false)).bind fun v19 =>
  (guardEv (some (.val v19)) true
  (.ok (v8, q18.2))
  (.ok (undefA, q18.2))).bind fun q20 =>
  (guardEv (some (.val v19)) true
  (.ok (v12, q20.2))
  (.ok (undefA, q20.2))).bind fun q21 =>
  (guardEv (some (.val v19)) true
  ((M.bin Tryz.prog .eql 26 (.tmp 36) (.tmp 37) q20.1 q21.1).bind fun v22 =>
  .ok (v22, q21.2))
  (.ok (undefA, q21.2))).bind fun q23 =>
  (M.pick v19 q23.1 (.bool false)).bind fun v24 =>
  (guardEv (some (.val v24)) true
  (.ok ((.agg [(.int .i64 p0_0), (.str p0_1), (.int .u32 p0_2), (.bool p0_3), p0_4, (.int .i64 p0_5)]), q23.2))
  (.ok (undefA, q23.2))).bind fun q25 =>
  (guardEv (some (.val v24)) true
  ((Γ 11 [q25.1] (q25.2).start).bind fun r26 =>
  if r26.2.n = (q25.2).n ∧ r26.2.low = (q25.2).n then
  .ok (r26.1, q25.2)
  else .no)
  (.ok (undefA, q25.2))).bind fun q27 =>
  (guardEv (some (.val v24)) true
  ((M.ldc true 6 cs5 0).bind fun v28 =>
  .ok (v28, q27.2))
  (.ok (undefA, q27.2))).bind fun q29 =>
  (guardEv (some (.val v24)) true
  ((Γ 11 [q29.1] q29.2).bind fun r30 =>
  .ok (r30.1, r30.2))
  (.ok (undefA, q29.2))).bind fun q31 =>
  (guardEv (some (.val v24)) true
  ((M.bin Tryz.prog .eql 3 (.tmp 42) (.tmp 44) q27.1 q31.1).bind fun v32 =>
  .ok (v32, q31.2))
  (.ok (undefA, q31.2))).bind fun q33 =>
  (M.pick v24 q33.1 (.bool false)).bind fun v34 =>
  (guardEv (some (.val v34)) true
  (.ok ((.agg [(.int .i64 p0_0), (.str p0_1), (.int .u32 p0_2), (.bool p0_3), p0_4, (.int .i64 p0_5)]), q33.2))
  (.ok (undefA, q33.2))).bind fun q35 =>
  (guardEv (some (.val v34)) true
  ((Γ 12 [q35.1] (q35.2).start).bind fun r36 =>
  if r36.2.n = (q35.2).n ∧ r36.2.low = (q35.2).n then
  .ok (r36.1, q35.2)
  else .no)
  (.ok (undefA, q35.2))).bind fun q37 =>
  (guardEv (some (.val v34)) true
  ((M.ldc true 6 cs5 0).bind fun v38 =>
  .ok (v38, q37.2))
  (.ok (undefA, q37.2))).bind fun q39 =>
  (guardEv (some (.val v34)) true
  ((Γ 12 [q39.1] q39.2).bind fun r40 =>
  .ok (r40.1, r40.2))
  (.ok (undefA, q39.2))).bind fun q41 =>
  (guardEv (some (.val v34)) true
  ((M.bin Tryz.prog .eql 3 (.tmp 49) (.tmp 51) q37.1 q41.1).bind fun v42 =>
  .ok (v42, q41.2))
  (.ok (undefA, q41.2))).bind fun q43 =>
  (M.pick v34 q43.1 (.bool false)).bind fun v44 =>
  (guardEv (some (.val v44)) true
  (.ok ((.agg [(.int .i64 p0_0), (.str p0_1), (.int .u32 p0_2), (.bool p0_3), p0_4, (.int .i64 p0_5)]), q43.2))
  (.ok (undefA, q43.2))).bind fun q45 =>
  (guardEv (some (.val v44)) true
  ((Γ 13 [q45.1] (q45.2).start).bind fun r46 =>
  if r46.2.n = (q45.2).n ∧ r46.2.low = (q45.2).n then
  .ok (r46.1, q45.2)
  else .no)
  (.ok (undefA, q45.2))).bind fun q47 =>
  (guardEv (some (.val v44)) true
  ((M.ldc true 6 cs5 0).bind fun v48 =>
  .ok (v48, q47.2))
  (.ok (undefA, q47.2))).bind fun q49 =>
  (guardEv (some (.val v44)) true
  ((Γ 13 [q49.1] q49.2).bind fun r50 =>
  .ok (r50.1, r50.2))
  (.ok (undefA, q49.2))).bind fun q51 =>
  (guardEv (some (.val v44)) true
  ((M.bin Tryz.prog .eql 26 (.tmp 56) (.tmp 58) q47.1 q51.1).bind fun v52 =>
  .ok (v52, q51.2))
  (.ok (undefA, q51.2))).bind fun q53 =>
  (M.pick v44 q53.1 (.bool false)).bind fun v54 =>
  (guardEv (some (.val v54)) true
  ((Γ 7 [] q53.2).bind fun r55 =>
  .ok (r55.1, r55.2))
  (.ok (undefA, q53.2))).bind fun q56 =>
  (M.pick v54 q56.1 (.bool false)).bind fun v57 =>
  .ok (gc v57 H q56.2))
theorem u4 {glob : Nat → Option (List AV)} {prim : Nat → Option (List AV → Heap → Out (AV × Heap))} (hp : prim 4 = none) (Γ : CallsT) (lp : LoopT Ans) (p0_0 : Int) (p0_1 : (List UInt8)) (p0_2 : Int) (p0_3 : Bool) (p0_4 : AV) (p0_5 : Int) (p1 : Int) (H : Heap) : runF (X0 glob prim) lp Γ 4 [(.agg [(.int .i64 p0_0), (.str p0_1), (.int .u32 p0_2), (.bool p0_3), p0_4, (.int .i64 p0_5)]), (.int .i64 p1)] H = g4 Γ lp p0_0 p0_1 p0_2 p0_3 p0_4 p0_5 p1 H :=
  (runF_run hp (show trieF.get 4 = some Tryz.f4 by kernel_rfl) (by kernel_rfl) (by kernel_rfl)).trans (by kernel_rfl)
theorem c4 {glob : Nat → Option (List AV)} {prim : Nat → Option (List AV → Heap → Out (AV × Heap))} (hp : prim 4 = none) (p0_0 : Int) (p0_1 : (List UInt8)) (p0_2 : Int) (p0_3 : Bool) (p0_4 : AV) (p0_5 : Int) (p1 : Int) (H : Heap) {r : Ans} (h : g4 (callW (X0 glob prim)) loopW p0_0 p0_1 p0_2 p0_3 p0_4 p0_5 p1 H = .ok r) : callW (X0 glob prim) 4 [(.agg [(.int .i64 p0_0), (.str p0_1), (.int .u32 p0_2), (.bool p0_3), p0_4, (.int .i64 p0_5)]), (.int .i64 p1)] H = .ok r := callW_of ((u4 hp ..).trans h)
/- crucible/ast.Print -/
noncomputable def g5 (Γ : CallsT) (lp : LoopT Ans) (p0_0 : Int) (p0_1 : (List UInt8)) (p0_2 : Int) (p0_3 : Bool) (p0_4 : AV) (p0_5 : Int) (H : Heap) : Out Ans :=
  (Γ 13 [(.agg [(.int .i64 p0_0), (.str p0_1), (.int .u32 p0_2), (.bool p0_3), p0_4, (.int .i64 p0_5)])] H.start).bind fun r1 =>
  (M.bin Tryz.prog .neq 26 (.tmp 8) (.const (.int .i64 0)) r1.1 (.int .i64 0)).bind fun v2 =>
  condEv v2
  (.ok (gc (.tup [(.str []), r1.1]) H r1.2))
  (let h3 : Heap := (r1.2).alloc (.cells 39 [nilSlice])
  (Γ 14 [(.ref (r1.2).n 0), p0_4] h3).bind fun r4 =>
  (M.load false 1 (.ref (r1.2).n 0) r4.2).bind fun v5 =>
  (M.len false v5).bind fun v6 =>
  (M.bin Tryz.prog .gtr 3 (.tmp 21) (.const (.int .i64 1048576)) v6 (.int .i64 1048576)).bind fun v7 =>
  condEv v7
  (.ok (gc (.tup [(.str []), (.int .i64 3)]) H r4.2))
  ((M.load false 1 (.ref (r1.2).n 0) r4.2).bind fun v8 =>
  (M.toStr v8 r4.2).bind fun v9 =>
  .ok (gc (.tup [v9, (.int .i64 0)]) H r4.2)))
theorem u5 {glob : Nat → Option (List AV)} {prim : Nat → Option (List AV → Heap → Out (AV × Heap))} (hp : prim 5 = none) (Γ : CallsT) (lp : LoopT Ans) (p0_0 : Int) (p0_1 : (List UInt8)) (p0_2 : Int) (p0_3 : Bool) (p0_4 : AV) (p0_5 : Int) (H : Heap) : runF (X0 glob prim) lp Γ 5 [(.agg [(.int .i64 p0_0), (.str p0_1), (.int .u32 p0_2), (.bool p0_3), p0_4, (.int .i64 p0_5)])] H = g5 Γ lp p0_0 p0_1 p0_2 p0_3 p0_4 p0_5 H :=
  (runF_run hp (show trieF.get 5 = some Tryz.f5 by kernel_rfl) (by kernel_rfl) (by kernel_rfl)).trans (by kernel_rfl)
theorem c5 {glob : Nat → Option (List AV)} {prim : Nat → Option (List AV → Heap → Out (AV × Heap))} (hp : prim 5 = none) (p0_0 : Int) (p0_1 : (List UInt8)) (p0_2 : Int) (p0_3 : Bool) (p0_4 : AV) (p0_5 : Int) (H : Heap) {r : Ans} (h : g5 (callW (X0 glob prim)) loopW p0_0 p0_1 p0_2 p0_3 p0_4 p0_5 H = .ok r) : callW (X0 glob prim) 5 [(.agg [(.int .i64 p0_0), (.str p0_1), (.int .u32 p0_2), (.bool p0_3), p0_4, (.int .i64 p0_5)])] H = .ok r := callW_of ((u5 hp ..).trans h)
/- crucible/crucibleref08.Print -/
noncomputable def g6 (Γ : CallsT) (lp : LoopT Ans) (p0_0 : Int) (p0_1 : (List UInt8)) (p0_2 : Int) (p0_3 : Bool) (p0_4 : AV) (p0_5 : Int) (H : Heap) : Out Ans :=
  (Γ 15 [(.agg [(.int .i64 p0_0), (.str p0_1), (.int .u32 p0_2), (.bool p0_3), p0_4, (.int .i64 p0_5)])] H.start).bind fun r1 =>
  (M.bin Tryz.prog .neq 26 (.tmp 8) (.const (.int .i64 0)) r1.1 (.int .i64 0)).bind fun v2 =>
  condEv v2
  (.ok (gc (.tup [(.str []), r1.1]) H r1.2))
  (let h3 : Heap := (r1.2).alloc (.cells 43 [nilSlice])
  (Γ 16 [(.ref (r1.2).n 0), p0_4] h3).bind fun r4 =>
  (M.load false 1 (.ref (r1.2).n 0) r4.2).bind fun v5 =>
  (M.len false v5).bind fun v6 =>
  (M.bin Tryz.prog .gtr 3 (.tmp 21) (.const (.int .i64 1048576)) v6 (.int .i64 1048576)).bind fun v7 =>
  condEv v7
  (.ok (gc (.tup [(.str []), (.int .i64 3)]) H r4.2))
  ((M.load false 1 (.ref (r1.2).n 0) r4.2).bind fun v8 =>
  (M.toStr v8 r4.2).bind fun v9 =>
  .ok (gc (.tup [v9, (.int .i64 0)]) H r4.2)))
theorem u6 {glob : Nat → Option (List AV)} {prim : Nat → Option (List AV → Heap → Out (AV × Heap))} (hp : prim 6 = none) (Γ : CallsT) (lp : LoopT Ans) (p0_0 : Int) (p0_1 : (List UInt8)) (p0_2 : Int) (p0_3 : Bool) (p0_4 : AV) (p0_5 : Int) (H : Heap) : runF (X0 glob prim) lp Γ 6 [(.agg [(.int .i64 p0_0), (.str p0_1), (.int .u32 p0_2), (.bool p0_3), p0_4, (.int .i64 p0_5)])] H = g6 Γ lp p0_0 p0_1 p0_2 p0_3 p0_4 p0_5 H :=
  (runF_run hp (show trieF.get 6 = some Tryz.f6 by kernel_rfl) (by kernel_rfl) (by kernel_rfl)).trans (by kernel_rfl)
theorem c6 {glob : Nat → Option (List AV)} {prim : Nat → Option (List AV → Heap → Out (AV × Heap))} (hp : prim 6 = none) (p0_0 : Int) (p0_1 : (List UInt8)) (p0_2 : Int) (p0_3 : Bool) (p0_4 : AV) (p0_5 : Int) (H : Heap) {r : Ans} (h : g6 (callW (X0 glob prim)) loopW p0_0 p0_1 p0_2 p0_3 p0_4 p0_5 H = .ok r) : callW (X0 glob prim) 6 [(.agg [(.int .i64 p0_0), (.str p0_1), (.int .u32 p0_2), (.bool p0_3), p0_4, (.int .i64 p0_5)])] H = .ok r := callW_of ((u6 hp ..).trans h)
/- crucible/cruciblelaw08.awake -/
noncomputable def g7 (Γ : CallsT) (lp : LoopT Ans)  (H : Heap) : Out Ans :=
  (Γ 17 [] H.start).bind fun r1 =>
  (Γ 5 [r1.1] r1.2).bind fun r2 =>
  (M.extract 0 r2.1).bind fun v3 =>
  (M.extract 1 r2.1).bind fun v4 =>
  (M.bin Tryz.prog .eql 26 (.tmp 8) (.const (.int .i64 0)) v4 (.int .i64 0)).bind fun v5 =>
  (guardEv (some (.val v5)) true
  (.ok (v3, r2.2))
  (.ok (undefA, r2.2))).bind fun q6 =>
  (guardEv (some (.val v5)) true
  ((M.bin Tryz.prog .eql 9 (.tmp 11) (.const (.string ⟨⟨[105, 110, 116, 32, 120, 32, 61, 32, 49, 59, 10]⟩⟩)) q6.1 (.str [105, 110, 116, 32, 120, 32, 61, 32, 49, 59, 10])).bind fun v7 =>
  .ok (v7, q6.2))
  (.ok (undefA, q6.2))).bind fun q8 =>
  (M.pick v5 q8.1 (.bool false)).bind fun v9 =>
  (guardEv (some (.val v9)) true
  ((Γ 17 [] q8.2).bind fun r10 =>
  .ok (r10.1, r10.2))
  (.ok (undefA, q8.2))).bind fun q11 =>
  (guardEv (some (.val v9)) true
  ((Γ 12 [q11.1] q11.2).bind fun r12 =>
  .ok (r12.1, r12.2))
  (.ok (undefA, q11.2))).bind fun q13 =>
  (guardEv (some (.val v9)) true
  ((M.bin Tryz.prog .eql 3 (.tmp 16) (.const (.int .i64 5)) q13.1 (.int .i64 5)).bind fun v14 =>
  .ok (v14, q13.2))
  (.ok (undefA, q13.2))).bind fun q15 =>
  (M.pick v9 q15.1 (.bool false)).bind fun v16 =>
  .ok (gc v16 H q15.2)
theorem u7 {glob : Nat → Option (List AV)} {prim : Nat → Option (List AV → Heap → Out (AV × Heap))} (hp : prim 7 = none) (Γ : CallsT) (lp : LoopT Ans)  (H : Heap) : runF (X0 glob prim) lp Γ 7 [] H = g7 Γ lp  H :=
  (runF_run hp (show trieF.get 7 = some Tryz.f7 by kernel_rfl) (by kernel_rfl) (by kernel_rfl)).trans (by kernel_rfl)
theorem c7 {glob : Nat → Option (List AV)} {prim : Nat → Option (List AV → Heap → Out (AV × Heap))} (hp : prim 7 = none)  (H : Heap) {r : Ans} (h : g7 (callW (X0 glob prim)) loopW  H = .ok r) : callW (X0 glob prim) 7 [] H = .ok r := callW_of ((u7 hp ..).trans h)
/- crucible/crucibleref08.Size -/
noncomputable def g8 (Γ : CallsT) (lp : LoopT Ans) (p0_0 : Int) (p0_1 : (List UInt8)) (p0_2 : Int) (p0_3 : Bool) (p0_4 : AV) (p0_5 : Int) (H : Heap) : Out Ans :=
  (Γ 18 [(.agg [(.int .i64 p0_0), (.str p0_1), (.int .u32 p0_2), (.bool p0_3), p0_4, (.int .i64 p0_5)]), (.int .i64 0)] H.start).bind fun r1 =>
  (M.bin Tryz.prog .gtr 3 (.tmp 6) (.const (.int .i64 262144)) r1.1 (.int .i64 262144)).bind fun v2 =>
  condEv v2
  (.ok (gc (.int .i64 0) H r1.2))
  (.ok (gc r1.1 H r1.2))
theorem u8 {glob : Nat → Option (List AV)} {prim : Nat → Option (List AV → Heap → Out (AV × Heap))} (hp : prim 8 = none) (Γ : CallsT) (lp : LoopT Ans) (p0_0 : Int) (p0_1 : (List UInt8)) (p0_2 : Int) (p0_3 : Bool) (p0_4 : AV) (p0_5 : Int) (H : Heap) : runF (X0 glob prim) lp Γ 8 [(.agg [(.int .i64 p0_0), (.str p0_1), (.int .u32 p0_2), (.bool p0_3), p0_4, (.int .i64 p0_5)])] H = g8 Γ lp p0_0 p0_1 p0_2 p0_3 p0_4 p0_5 H :=
  (runF_run hp (show trieF.get 8 = some Tryz.f8 by kernel_rfl) (by kernel_rfl) (by kernel_rfl)).trans (by kernel_rfl)
theorem c8 {glob : Nat → Option (List AV)} {prim : Nat → Option (List AV → Heap → Out (AV × Heap))} (hp : prim 8 = none) (p0_0 : Int) (p0_1 : (List UInt8)) (p0_2 : Int) (p0_3 : Bool) (p0_4 : AV) (p0_5 : Int) (H : Heap) {r : Ans} (h : g8 (callW (X0 glob prim)) loopW p0_0 p0_1 p0_2 p0_3 p0_4 p0_5 H = .ok r) : callW (X0 glob prim) 8 [(.agg [(.int .i64 p0_0), (.str p0_1), (.int .u32 p0_2), (.bool p0_3), p0_4, (.int .i64 p0_5)])] H = .ok r := callW_of ((u8 hp ..).trans h)
/- crucible/ast.Size -/
noncomputable def g12 (Γ : CallsT) (lp : LoopT Ans) (p0_0 : Int) (p0_1 : (List UInt8)) (p0_2 : Int) (p0_3 : Bool) (p0_4 : AV) (p0_5 : Int) (H : Heap) : Out Ans :=
  (Γ 20 [(.agg [(.int .i64 p0_0), (.str p0_1), (.int .u32 p0_2), (.bool p0_3), p0_4, (.int .i64 p0_5)]), (.int .i64 0)] H.start).bind fun r1 =>
  (M.bin Tryz.prog .leq 3 (.tmp 6) (.const (.int .i64 262144)) r1.1 (.int .i64 262144)).bind fun v2 =>
  condEv v2
  (.ok (gc r1.1 H r1.2))
  (.ok (gc (.int .i64 0) H r1.2))
theorem u12 {glob : Nat → Option (List AV)} {prim : Nat → Option (List AV → Heap → Out (AV × Heap))} (hp : prim 12 = none) (Γ : CallsT) (lp : LoopT Ans) (p0_0 : Int) (p0_1 : (List UInt8)) (p0_2 : Int) (p0_3 : Bool) (p0_4 : AV) (p0_5 : Int) (H : Heap) : runF (X0 glob prim) lp Γ 12 [(.agg [(.int .i64 p0_0), (.str p0_1), (.int .u32 p0_2), (.bool p0_3), p0_4, (.int .i64 p0_5)])] H = g12 Γ lp p0_0 p0_1 p0_2 p0_3 p0_4 p0_5 H :=
  (runF_run hp (show trieF.get 12 = some Tryz.f12 by kernel_rfl) (by kernel_rfl) (by kernel_rfl)).trans (by kernel_rfl)
theorem c12 {glob : Nat → Option (List AV)} {prim : Nat → Option (List AV → Heap → Out (AV × Heap))} (hp : prim 12 = none) (p0_0 : Int) (p0_1 : (List UInt8)) (p0_2 : Int) (p0_3 : Bool) (p0_4 : AV) (p0_5 : Int) (H : Heap) {r : Ans} (h : g12 (callW (X0 glob prim)) loopW p0_0 p0_1 p0_2 p0_3 p0_4 p0_5 H = .ok r) : callW (X0 glob prim) 12 [(.agg [(.int .i64 p0_0), (.str p0_1), (.int .u32 p0_2), (.bool p0_3), p0_4, (.int .i64 p0_5)])] H = .ok r := callW_of ((u12 hp ..).trans h)
/- crucible/ast.Check -/
noncomputable def g13 (Γ : CallsT) (lp : LoopT Ans) (p0_0 : Int) (p0_1 : (List UInt8)) (p0_2 : Int) (p0_3 : Bool) (p0_4 : AV) (p0_5 : Int) (H : Heap) : Out Ans :=
  (guardEv (some (.val (.bool ((p0_0 != 40))))) false
  (.ok ((.agg [(.int .i64 p0_0), (.str p0_1), (.int .u32 p0_2), (.bool p0_3), p0_4, (.int .i64 p0_5)]), H.start))
  (.ok (undefA, H.start))).bind fun q1 =>
  (guardEv (some (.val (.bool ((p0_0 != 40))))) false
  ((Γ 12 [q1.1] q1.2).bind fun r2 =>
  .ok (r2.1, r2.2))
  (.ok (undefA, q1.2))).bind fun q3 =>
  (guardEv (some (.val (.bool ((p0_0 != 40))))) false
  ((M.bin Tryz.prog .eql 3 (.tmp 8) (.const (.int .i64 0)) q3.1 (.int .i64 0)).bind fun v4 =>
  .ok (v4, q3.2))
  (.ok (undefA, q3.2))).bind fun q5 =>
  (M.pick (.bool ((p0_0 != 40))) (.bool true) q5.1).bind fun v6 =>
  (guardEv (some (.val v6)) false
  (.ok ((.agg [(.int .i64 p0_0), (.str p0_1), (.int .u32 p0_2), (.bool p0_3), p0_4, (.int .i64 p0_5)]), q5.2))
  (.ok (undefA, q5.2))).bind fun q7 =>
  (guardEv (some (.val v6)) false
  ((Γ 21 [q7.1] q7.2).bind fun r8 =>
  .ok (r8.1, r8.2))
  (.ok (undefA, q7.2))).bind fun q9 =>
  (guardEv (some (.val v6)) false
  ((M.un .not q9.1).bind fun v10 =>
  .ok (v10, q9.2))
  (.ok (undefA, q9.2))).bind fun q11 =>
  (M.pick v6 (.bool true) q11.1).bind fun v12 =>
  condEv v12
  (.ok (gc (.int .i64 80) H q11.2))
  (.ok (gc (.int .i64 0) H q11.2))
theorem u13 {glob : Nat → Option (List AV)} {prim : Nat → Option (List AV → Heap → Out (AV × Heap))} (hp : prim 13 = none) (Γ : CallsT) (lp : LoopT Ans) (p0_0 : Int) (p0_1 : (List UInt8)) (p0_2 : Int) (p0_3 : Bool) (p0_4 : AV) (p0_5 : Int) (H : Heap) : runF (X0 glob prim) lp Γ 13 [(.agg [(.int .i64 p0_0), (.str p0_1), (.int .u32 p0_2), (.bool p0_3), p0_4, (.int .i64 p0_5)])] H = g13 Γ lp p0_0 p0_1 p0_2 p0_3 p0_4 p0_5 H :=
  (runF_run hp (show trieF.get 13 = some Tryz.f13 by kernel_rfl) (by kernel_rfl) (by kernel_rfl)).trans (by kernel_rfl)
theorem c13 {glob : Nat → Option (List AV)} {prim : Nat → Option (List AV → Heap → Out (AV × Heap))} (hp : prim 13 = none) (p0_0 : Int) (p0_1 : (List UInt8)) (p0_2 : Int) (p0_3 : Bool) (p0_4 : AV) (p0_5 : Int) (H : Heap) {r : Ans} (h : g13 (callW (X0 glob prim)) loopW p0_0 p0_1 p0_2 p0_3 p0_4 p0_5 H = .ok r) : callW (X0 glob prim) 13 [(.agg [(.int .i64 p0_0), (.str p0_1), (.int .u32 p0_2), (.bool p0_3), p0_4, (.int .i64 p0_5)])] H = .ok r := callW_of ((u13 hp ..).trans h)
/- (*crucible/ast.printer).all -/
noncomputable def g14_l1 (Γ : CallsT) (lp : LoopT Ans) (H : Heap) : LS → (LS → Out Ans) → Out Ans := fun s2 a3 =>
  (M.bin Tryz.prog .lss 3 (.tmp 8) (.tmp 7) (s2.1.getD 3 undefA) (s2.1.getD 2 undefA)).bind fun v4 =>
  condEv v4
  ((M.indexSl 6 (s2.1.getD 1 undefA) (s2.1.getD 3 undefA)).bind fun v5 =>
  (M.load true 6 v5 s2.2.2).bind fun v6 =>
  onO (Locs.find (Locs.put s2.2.1 5 [(.int .i64 0), (.str []), (.int .u32 0), (.bool false), nilSlice, (.int .i64 0)]) 5) fun cs7 =>
  (M.stc 6 cs7 0 v6).bind fun cs8 =>
  onO (Locs.find (Locs.put (Locs.put s2.2.1 5 [(.int .i64 0), (.str []), (.int .u32 0), (.bool false), nilSlice, (.int .i64 0)]) 5 cs8) 5) fun cs9 =>
  (M.ldc true 6 cs9 0).bind fun v10 =>
  (Γ 22 [(s2.1.getD 0 undefA), v10] s2.2.2).bind fun r11 =>
  (M.bin Tryz.prog .add 3 (.tmp 8) (.const (.int .i64 1)) (s2.1.getD 3 undefA) (.int .i64 1)).bind fun v12 =>
  a3 ([(s2.1.getD 0 undefA), (s2.1.getD 1 undefA), (s2.1.getD 2 undefA), v12], (Locs.put (Locs.put s2.2.1 5 [(.int .i64 0), (.str []), (.int .u32 0), (.bool false), nilSlice, (.int .i64 0)]) 5 cs8), r11.2))
  (.ok (gc (.tup []) H s2.2.2))
noncomputable def g14 (Γ : CallsT) (lp : LoopT Ans) (p0 : AV) (p1 : AV) (H : Heap) : Out Ans :=
  (M.len false p1).bind fun v1 =>
  lp (g14_l1 Γ lp H) ([p0, p1, v1, (.int .i64 0)], [], H.start)
theorem u14 {glob : Nat → Option (List AV)} {prim : Nat → Option (List AV → Heap → Out (AV × Heap))} (hp : prim 14 = none) (Γ : CallsT) (lp : LoopT Ans) (p0 : AV) (p1 : AV) (H : Heap) : runF (X0 glob prim) lp Γ 14 [p0, p1] H = g14 Γ lp p0 p1 H :=
  (runF_run hp (show trieF.get 14 = some Tryz.f14 by kernel_rfl) (by kernel_rfl) (by kernel_rfl)).trans (by kernel_rfl)
theorem c14 {glob : Nat → Option (List AV)} {prim : Nat → Option (List AV → Heap → Out (AV × Heap))} (hp : prim 14 = none) (p0 : AV) (p1 : AV) (H : Heap) {r : Ans} (h : g14 (callW (X0 glob prim)) loopW p0 p1 H = .ok r) : callW (X0 glob prim) 14 [p0, p1] H = .ok r := callW_of ((u14 hp ..).trans h)
/- crucible/crucibleref08.Check -/
noncomputable def g15_l4 (Γ : CallsT) (lp : LoopT Ans) (H : Heap) : LS → (LS → Out Ans) → Out Ans := fun s13 a14 =>
  onO (Locs.find s13.2.1 1) fun cs15 =>
  (M.ldc false 1 cs15 4).bind fun v16 =>
  (M.len false v16).bind fun v17 =>
  (M.bin Tryz.prog .lss 3 (.tmp 18) (.tmp 21) (s13.1.getD 0 undefA) v17).bind fun v18 =>
  condEv v18
  (onO (Locs.find s13.2.1 1) fun cs19 =>
  (M.ldc false 1 cs19 4).bind fun v20 =>
  (M.indexSl 6 v20 (s13.1.getD 0 undefA)).bind fun v21 =>
  (M.load true 6 v21 s13.2.2).bind fun v22 =>
  onO (Locs.find (Locs.put s13.2.1 4 [(.int .i64 0), (.str []), (.int .u32 0), (.bool false), nilSlice, (.int .i64 0)]) 4) fun cs23 =>
  (M.stc 6 cs23 0 v22).bind fun cs24 =>
  onO (Locs.find (Locs.put (Locs.put s13.2.1 4 [(.int .i64 0), (.str []), (.int .u32 0), (.bool false), nilSlice, (.int .i64 0)]) 4 cs24) 4) fun cs25 =>
  (M.ldc true 6 cs25 0).bind fun v26 =>
  (Γ 24 [v26] s13.2.2).bind fun r27 =>
  (M.un .not r27.1).bind fun v28 =>
  (guardEv (some (.val v28)) true
  (onO (Locs.find (Locs.put (Locs.put s13.2.1 4 [(.int .i64 0), (.str []), (.int .u32 0), (.bool false), nilSlice, (.int .i64 0)]) 4 cs24) 4) fun cs29 =>
  (M.ldc true 6 cs29 0).bind fun v30 =>
  .ok (v30, r27.2))
  (.ok (undefA, r27.2))).bind fun q31 =>
  (guardEv (some (.val v28)) true
  ((Γ 25 [q31.1, (.bool false)] q31.2).bind fun r32 =>
  .ok (r32.1, r32.2))
  (.ok (undefA, q31.2))).bind fun q33 =>
  (guardEv (some (.val v28)) true
  ((M.un .not q33.1).bind fun v34 =>
  .ok (v34, q33.2))
  (.ok (undefA, q33.2))).bind fun q35 =>
  (M.pick v28 q35.1 (.bool false)).bind fun v36 =>
  (guardEv (some (.val v36)) true
  (onO (Locs.find (Locs.put (Locs.put s13.2.1 4 [(.int .i64 0), (.str []), (.int .u32 0), (.bool false), nilSlice, (.int .i64 0)]) 4 cs24) 4) fun cs37 =>
  (M.ldc true 6 cs37 0).bind fun v38 =>
  .ok (v38, q35.2))
  (.ok (undefA, q35.2))).bind fun q39 =>
  (guardEv (some (.val v36)) true
  ((Γ 26 [q39.1] q39.2).bind fun r40 =>
  .ok (r40.1, r40.2))
  (.ok (undefA, q39.2))).bind fun q41 =>
  (guardEv (some (.val v36)) true
  ((M.un .not q41.1).bind fun v42 =>
  .ok (v42, q41.2))
  (.ok (undefA, q41.2))).bind fun q43 =>
  (M.pick v36 q43.1 (.bool false)).bind fun v44 =>
  condEv v44
  (.ok (gc (.int .i64 80) H q43.2))
  ((M.bin Tryz.prog .add 3 (.tmp 23) (.const (.int .i64 1)) (s13.1.getD 0 undefA) (.int .i64 1)).bind fun v45 =>
  a14 ([v45], (Locs.put (Locs.put s13.2.1 4 [(.int .i64 0), (.str []), (.int .u32 0), (.bool false), nilSlice, (.int .i64 0)]) 4 cs24), q43.2)))
  (.ok (gc (.int .i64 0) H s13.2.2))
noncomputable def g15 (Γ : CallsT) (lp : LoopT Ans) (p0_0 : Int) (p0_1 : (List UInt8)) (p0_2 : Int) (p0_3 : Bool) (p0_4 : AV) (p0_5 : Int) (H : Heap) : Out Ans :=
  (Γ 8 [(.agg [(.int .i64 p0_0), (.str p0_1), (.int .u32 p0_2), (.bool p0_3), p0_4, (.int .i64 p0_5)])] H.start).bind fun r1 =>
  (M.bin Tryz.prog .eql 3 (.tmp 6) (.const (.int .i64 0)) r1.1 (.int .i64 0)).bind fun v2 =>
  (guardEv (some (.val v2)) false
  (.ok ((.int .i64 p0_0), r1.2))
  (.ok (undefA, r1.2))).bind fun q3 =>
  (guardEv (some (.val v2)) false
  ((M.bin Tryz.prog .neq 3 (.tmp 10) (.const (.int .i64 40)) q3.1 (.int .i64 40)).bind fun v4 =>
  .ok (v4, q3.2))
  (.ok (undefA, q3.2))).bind fun q5 =>
  (M.pick v2 (.bool true) q5.1).bind fun v6 =>
  (guardEv (some (.val v6)) false
  (.ok ((.agg [(.int .i64 p0_0), (.str p0_1), (.int .u32 p0_2), (.bool p0_3), p0_4, (.int .i64 p0_5)]), q5.2))
  (.ok (undefA, q5.2))).bind fun q7 =>
  (guardEv (some (.val v6)) false
  ((Γ 23 [q7.1, (.bool false), (.bool false), (.bool false)] q7.2).bind fun r8 =>
  .ok (r8.1, r8.2))
  (.ok (undefA, q7.2))).bind fun q9 =>
  (guardEv (some (.val v6)) false
  ((M.un .not q9.1).bind fun v10 =>
  .ok (v10, q9.2))
  (.ok (undefA, q9.2))).bind fun q11 =>
  (M.pick v6 (.bool true) q11.1).bind fun v12 =>
  condEv v12
  (.ok (gc (.int .i64 80) H q11.2))
  (lp (g15_l4 Γ lp H) ([(.int .i64 0)], [(1, [(.int .i64 p0_0), (.str p0_1), (.int .u32 p0_2), (.bool p0_3), p0_4, (.int .i64 p0_5)])], q11.2))
theorem u15 {glob : Nat → Option (List AV)} {prim : Nat → Option (List AV → Heap → Out (AV × Heap))} (hp : prim 15 = none) (Γ : CallsT) (lp : LoopT Ans) (p0_0 : Int) (p0_1 : (List UInt8)) (p0_2 : Int) (p0_3 : Bool) (p0_4 : AV) (p0_5 : Int) (H : Heap) : runF (X0 glob prim) lp Γ 15 [(.agg [(.int .i64 p0_0), (.str p0_1), (.int .u32 p0_2), (.bool p0_3), p0_4, (.int .i64 p0_5)])] H = g15 Γ lp p0_0 p0_1 p0_2 p0_3 p0_4 p0_5 H :=
  (runF_run hp (show trieF.get 15 = some Tryz.f15 by kernel_rfl) (by kernel_rfl) (by kernel_rfl)).trans (by kernel_rfl)
theorem c15 {glob : Nat → Option (List AV)} {prim : Nat → Option (List AV → Heap → Out (AV × Heap))} (hp : prim 15 = none) (p0_0 : Int) (p0_1 : (List UInt8)) (p0_2 : Int) (p0_3 : Bool) (p0_4 : AV) (p0_5 : Int) (H : Heap) {r : Ans} (h : g15 (callW (X0 glob prim)) loopW p0_0 p0_1 p0_2 p0_3 p0_4 p0_5 H = .ok r) : callW (X0 glob prim) 15 [(.agg [(.int .i64 p0_0), (.str p0_1), (.int .u32 p0_2), (.bool p0_3), p0_4, (.int .i64 p0_5)])] H = .ok r := callW_of ((u15 hp ..).trans h)
/- crucible/crucibleref08.all -/
noncomputable def g16_l1 (Γ : CallsT) (lp : LoopT Ans) (H : Heap) : LS → (LS → Out Ans) → Out Ans := fun s1 a2 =>
  (M.len false (s1.1.getD 1 undefA)).bind fun v3 =>
  (M.bin Tryz.prog .lss 3 (.tmp 5) (.tmp 7) (s1.1.getD 2 undefA) v3).bind fun v4 =>
  condEv v4
  ((M.indexSl 6 (s1.1.getD 1 undefA) (s1.1.getD 2 undefA)).bind fun v5 =>
  (M.load true 6 v5 s1.2.2).bind fun v6 =>
  (Γ 27 [(s1.1.getD 0 undefA), v6] s1.2.2).bind fun r7 =>
  (M.bin Tryz.prog .add 3 (.tmp 9) (.const (.int .i64 1)) (s1.1.getD 2 undefA) (.int .i64 1)).bind fun v8 =>
  a2 ([(s1.1.getD 0 undefA), (s1.1.getD 1 undefA), v8], s1.2.1, r7.2))
  (.ok (gc (.tup []) H s1.2.2))
noncomputable def g16 (Γ : CallsT) (lp : LoopT Ans) (p0 : AV) (p1 : AV) (H : Heap) : Out Ans :=
  lp (g16_l1 Γ lp H) ([p0, p1, (.int .i64 0)], [], H.start)
theorem u16 {glob : Nat → Option (List AV)} {prim : Nat → Option (List AV → Heap → Out (AV × Heap))} (hp : prim 16 = none) (Γ : CallsT) (lp : LoopT Ans) (p0 : AV) (p1 : AV) (H : Heap) : runF (X0 glob prim) lp Γ 16 [p0, p1] H = g16 Γ lp p0 p1 H :=
  (runF_run hp (show trieF.get 16 = some Tryz.f16 by kernel_rfl) (by kernel_rfl) (by kernel_rfl)).trans (by kernel_rfl)
theorem c16 {glob : Nat → Option (List AV)} {prim : Nat → Option (List AV → Heap → Out (AV × Heap))} (hp : prim 16 = none) (p0 : AV) (p1 : AV) (H : Heap) {r : Ans} (h : g16 (callW (X0 glob prim)) loopW p0 p1 H = .ok r) : callW (X0 glob prim) 16 [p0, p1] H = .ok r := callW_of ((u16 hp ..).trans h)
/- crucible/cruciblelaw08.own -/
noncomputable def g17 (Γ : CallsT) (lp : LoopT Ans)  (H : Heap) : Out Ans :=
  let h1 : Heap := (H.start).alloc (.cells 25 [(.int .i64 1), (.str []), (.int .u32 1), (.bool false), nilSlice, (.int .i64 0)])
  let h2 : Heap := (h1).alloc (.cells 25 [(.int .i64 16), (.str [105, 110, 116]), (.int .u32 0), (.bool false), nilSlice, (.int .i64 0), (.int .i64 43), (.str [120]), (.int .u32 0), (.bool false), (.sl (H.start).n 0 1 6), (.int .i64 0)])
  let h3 : Heap := (h2).alloc (.cells 25 [(.int .i64 42), (.str []), (.int .u32 0), (.bool false), (.sl (h1).n 0 2 6), (.int .i64 0)])
  .ok (gcz (.agg [(.int .i64 40), (.str []), (.int .u32 0), (.bool false), (.sl (h2).n 0 1 6), (.int .i64 0)]) H h3)
theorem u17 {glob : Nat → Option (List AV)} {prim : Nat → Option (List AV → Heap → Out (AV × Heap))} (hp : prim 17 = none) (Γ : CallsT) (lp : LoopT Ans)  (H : Heap) : runF (X0 glob prim) lp Γ 17 [] H = g17 Γ lp  H :=
  (runF_run hp (show trieF.get 17 = some Tryz.f17 by kernel_rfl) (by kernel_rfl) (by kernel_rfl)).trans (by kernel_rfl)
theorem c17 {glob : Nat → Option (List AV)} {prim : Nat → Option (List AV → Heap → Out (AV × Heap))} (hp : prim 17 = none)  (H : Heap) {r : Ans} (h : g17 (callW (X0 glob prim)) loopW  H = .ok r) : callW (X0 glob prim) 17 [] H = .ok r := callW_of ((u17 hp ..).trans h)
/- crucible/crucibleref08.counted -/
noncomputable def g18_l3 (Γ : CallsT) (lp : LoopT Ans) (H : Heap) : LS → (LS → Out Ans) → Out Ans := fun s1 a2 =>
  onO (Locs.find s1.2.1 2) fun cs3 =>
  (M.ldc false 1 cs3 4).bind fun v4 =>
  (M.len false v4).bind fun v5 =>
  (M.bin Tryz.prog .lss 3 (.tmp 8) (.tmp 11) (s1.1.getD 1 undefA) v5).bind fun v6 =>
  (guardEv (some (.val v6)) true
  (.ok ((s1.1.getD 0 undefA), s1.2.2))
  (.ok (undefA, s1.2.2))).bind fun q7 =>
  (guardEv (some (.val v6)) true
  ((M.bin Tryz.prog .leq 3 (.tmp 14) (.const (.int .i64 262144)) q7.1 (.int .i64 262144)).bind fun v8 =>
  .ok (v8, q7.2))
  (.ok (undefA, q7.2))).bind fun q9 =>
  (M.pick v6 q9.1 (.bool false)).bind fun v10 =>
  condEv v10
  (onO (Locs.find s1.2.1 2) fun cs11 =>
  (M.ldc false 1 cs11 4).bind fun v12 =>
  (M.indexSl 6 v12 (s1.1.getD 1 undefA)).bind fun v13 =>
  (M.load true 6 v13 q9.2).bind fun v14 =>
  (Γ 18 [v14, (s1.1.getD 0 undefA)] q9.2).bind fun r15 =>
  (M.bin Tryz.prog .add 3 (.tmp 17) (.const (.int .i64 1)) (s1.1.getD 1 undefA) (.int .i64 1)).bind fun v16 =>
  a2 ([r15.1, v16], s1.2.1, r15.2))
  (.ok (gc (s1.1.getD 0 undefA) H q9.2))
noncomputable def g18 (Γ : CallsT) (lp : LoopT Ans) (p0_0 : Int) (p0_1 : (List UInt8)) (p0_2 : Int) (p0_3 : Bool) (p0_4 : AV) (p0_5 : Int) (p1 : Int) (H : Heap) : Out Ans :=
  lp (g18_l3 Γ lp H) ([(.int .i64 (IntKind.wrap .i64 (p1 + 1))), (.int .i64 0)], [(2, [(.int .i64 p0_0), (.str p0_1), (.int .u32 p0_2), (.bool p0_3), p0_4, (.int .i64 p0_5)])], H.start)
theorem u18 {glob : Nat → Option (List AV)} {prim : Nat → Option (List AV → Heap → Out (AV × Heap))} (hp : prim 18 = none) (Γ : CallsT) (lp : LoopT Ans) (p0_0 : Int) (p0_1 : (List UInt8)) (p0_2 : Int) (p0_3 : Bool) (p0_4 : AV) (p0_5 : Int) (p1 : Int) (H : Heap) : runF (X0 glob prim) lp Γ 18 [(.agg [(.int .i64 p0_0), (.str p0_1), (.int .u32 p0_2), (.bool p0_3), p0_4, (.int .i64 p0_5)]), (.int .i64 p1)] H = g18 Γ lp p0_0 p0_1 p0_2 p0_3 p0_4 p0_5 p1 H :=
  (runF_run hp (show trieF.get 18 = some Tryz.f18 by kernel_rfl) (by kernel_rfl) (by kernel_rfl)).trans (by kernel_rfl)
theorem c18 {glob : Nat → Option (List AV)} {prim : Nat → Option (List AV → Heap → Out (AV × Heap))} (hp : prim 18 = none) (p0_0 : Int) (p0_1 : (List UInt8)) (p0_2 : Int) (p0_3 : Bool) (p0_4 : AV) (p0_5 : Int) (p1 : Int) (H : Heap) {r : Ans} (h : g18 (callW (X0 glob prim)) loopW p0_0 p0_1 p0_2 p0_3 p0_4 p0_5 p1 H = .ok r) : callW (X0 glob prim) 18 [(.agg [(.int .i64 p0_0), (.str p0_1), (.int .u32 p0_2), (.bool p0_3), p0_4, (.int .i64 p0_5)]), (.int .i64 p1)] H = .ok r := callW_of ((u18 hp ..).trans h)
/- crucible/ast.count -/
noncomputable def g20_l3 (Γ : CallsT) (lp : LoopT Ans) (j2 : (LS → Out Ans)) : LS → (LS → Out Ans) → Out Ans := fun s4 a5 =>
  (M.bin Tryz.prog .lss 3 (.tmp 12) (.tmp 11) (s4.1.getD 3 undefA) (s4.1.getD 2 undefA)).bind fun v6 =>
  condEv v6
  ((M.indexSl 6 (s4.1.getD 1 undefA) (s4.1.getD 3 undefA)).bind fun v7 =>
  (M.load true 6 v7 s4.2.2).bind fun v8 =>
  onO (Locs.find (Locs.put s4.2.1 6 [(.int .i64 0), (.str []), (.int .u32 0), (.bool false), nilSlice, (.int .i64 0)]) 6) fun cs9 =>
  (M.stc 6 cs9 0 v8).bind fun cs10 =>
  (M.bin Tryz.prog .gtr 3 (.tmp 16) (.const (.int .i64 262144)) (s4.1.getD 0 undefA) (.int .i64 262144)).bind fun v11 =>
  condEv v11
  (j2 ([(s4.1.getD 0 undefA)], (Locs.put (Locs.put s4.2.1 6 [(.int .i64 0), (.str []), (.int .u32 0), (.bool false), nilSlice, (.int .i64 0)]) 6 cs10), s4.2.2))
  (onO (Locs.find (Locs.put (Locs.put s4.2.1 6 [(.int .i64 0), (.str []), (.int .u32 0), (.bool false), nilSlice, (.int .i64 0)]) 6 cs10) 6) fun cs12 =>
  (M.ldc true 6 cs12 0).bind fun v13 =>
  (Γ 20 [v13, (s4.1.getD 0 undefA)] s4.2.2).bind fun r14 =>
  (M.bin Tryz.prog .add 3 (.tmp 12) (.const (.int .i64 1)) (s4.1.getD 3 undefA) (.int .i64 1)).bind fun v15 =>
  a5 ([r14.1, (s4.1.getD 1 undefA), (s4.1.getD 2 undefA), v15], (Locs.put (Locs.put s4.2.1 6 [(.int .i64 0), (.str []), (.int .u32 0), (.bool false), nilSlice, (.int .i64 0)]) 6 cs10), r14.2)))
  (j2 ([(s4.1.getD 0 undefA)], s4.2.1, s4.2.2))
noncomputable def g20 (Γ : CallsT) (lp : LoopT Ans) (p0_0 : Int) (p0_1 : (List UInt8)) (p0_2 : Int) (p0_3 : Bool) (p0_4 : AV) (p0_5 : Int) (p1 : Int) (H : Heap) : Out Ans :=
  jn (fun s1 =>
  .ok (gc (s1.1.getD 0 undefA) H s1.2.2)) fun j2 =>
  (M.len false p0_4).bind fun v3 =>
  lp (g20_l3 Γ lp j2) ([(.int .i64 (IntKind.wrap .i64 (p1 + 1))), p0_4, v3, (.int .i64 0)], [(2, [(.int .i64 p0_0), (.str p0_1), (.int .u32 p0_2), (.bool p0_3), p0_4, (.int .i64 p0_5)])], H.start)
theorem u20 {glob : Nat → Option (List AV)} {prim : Nat → Option (List AV → Heap → Out (AV × Heap))} (hp : prim 20 = none) (Γ : CallsT) (lp : LoopT Ans) (p0_0 : Int) (p0_1 : (List UInt8)) (p0_2 : Int) (p0_3 : Bool) (p0_4 : AV) (p0_5 : Int) (p1 : Int) (H : Heap) : runF (X0 glob prim) lp Γ 20 [(.agg [(.int .i64 p0_0), (.str p0_1), (.int .u32 p0_2), (.bool p0_3), p0_4, (.int .i64 p0_5)]), (.int .i64 p1)] H = g20 Γ lp p0_0 p0_1 p0_2 p0_3 p0_4 p0_5 p1 H :=
  (runF_run hp (show trieF.get 20 = some Tryz.f20 by kernel_rfl) (by kernel_rfl) (by kernel_rfl)).trans (by kernel_rfl)
theorem c20 {glob : Nat → Option (List AV)} {prim : Nat → Option (List AV → Heap → Out (AV × Heap))} (hp : prim 20 = none) (p0_0 : Int) (p0_1 : (List UInt8)) (p0_2 : Int) (p0_3 : Bool) (p0_4 : AV) (p0_5 : Int) (p1 : Int) (H : Heap) {r : Ans} (h : g20 (callW (X0 glob prim)) loopW p0_0 p0_1 p0_2 p0_3 p0_4 p0_5 p1 H = .ok r) : callW (X0 glob prim) 20 [(.agg [(.int .i64 p0_0), (.str p0_1), (.int .u32 p0_2), (.bool p0_3), p0_4, (.int .i64 p0_5)]), (.int .i64 p1)] H = .ok r := callW_of ((u20 hp ..).trans h)
/- crucible/ast.may -/
noncomputable def g21 (Γ : CallsT) (lp : LoopT Ans) (p0_0 : Int) (p0_1 : (List UInt8)) (p0_2 : Int) (p0_3 : Bool) (p0_4 : AV) (p0_5 : Int) (H : Heap) : Out Ans :=
  (Γ 28 [(.agg [(.int .i64 p0_0), (.str p0_1), (.int .u32 p0_2), (.bool p0_3), p0_4, (.int .i64 p0_5)])] H.start).bind fun r1 =>
  (guardEv (some (.val r1.1)) true
  (.ok (p0_4, r1.2))
  (.ok (undefA, r1.2))).bind fun q2 =>
  (guardEv (some (.val r1.1)) true
  ((Γ 29 [q2.1, (.fn (.func 21) [] [])] q2.2).bind fun r3 =>
  .ok (r3.1, r3.2))
  (.ok (undefA, q2.2))).bind fun q4 =>
  (M.pick r1.1 q4.1 (.bool false)).bind fun v5 =>
  .ok (gc v5 H q4.2)
theorem u21 {glob : Nat → Option (List AV)} {prim : Nat → Option (List AV → Heap → Out (AV × Heap))} (hp : prim 21 = none) (Γ : CallsT) (lp : LoopT Ans) (p0_0 : Int) (p0_1 : (List UInt8)) (p0_2 : Int) (p0_3 : Bool) (p0_4 : AV) (p0_5 : Int) (H : Heap) : runF (X0 glob prim) lp Γ 21 [(.agg [(.int .i64 p0_0), (.str p0_1), (.int .u32 p0_2), (.bool p0_3), p0_4, (.int .i64 p0_5)])] H = g21 Γ lp p0_0 p0_1 p0_2 p0_3 p0_4 p0_5 H :=
  (runF_run hp (show trieF.get 21 = some Tryz.f21 by kernel_rfl) (by kernel_rfl) (by kernel_rfl)).trans (by kernel_rfl)
theorem c21 {glob : Nat → Option (List AV)} {prim : Nat → Option (List AV → Heap → Out (AV × Heap))} (hp : prim 21 = none) (p0_0 : Int) (p0_1 : (List UInt8)) (p0_2 : Int) (p0_3 : Bool) (p0_4 : AV) (p0_5 : Int) (H : Heap) {r : Ans} (h : g21 (callW (X0 glob prim)) loopW p0_0 p0_1 p0_2 p0_3 p0_4 p0_5 H = .ok r) : callW (X0 glob prim) 21 [(.agg [(.int .i64 p0_0), (.str p0_1), (.int .u32 p0_2), (.bool p0_3), p0_4, (.int .i64 p0_5)])] H = .ok r := callW_of ((u21 hp ..).trans h)
/- (*crucible/ast.printer).line -/
noncomputable def g22_l25 (Γ : CallsT) (lp : LoopT Ans) (j3 : (LS → Out Ans)) : LS → (LS → Out Ans) → Out Ans := fun s40 a41 =>
  (M.bin Tryz.prog .lss 3 (.tmp 102) (.tmp 101) (s40.1.getD 3 undefA) (s40.1.getD 2 undefA)).bind fun v42 =>
  condEv v42
  ((M.indexSl 6 (s40.1.getD 1 undefA) (s40.1.getD 3 undefA)).bind fun v43 =>
  (M.load true 6 v43 s40.2.2).bind fun v44 =>
  onO (Locs.find (Locs.put s40.2.1 5 [(.int .i64 0), (.str []), (.int .u32 0), (.bool false), nilSlice, (.int .i64 0)]) 5) fun cs45 =>
  (M.stc 6 cs45 0 v44).bind fun cs46 =>
  jn (fun s47 =>
  onO (Locs.find s47.2.1 5) fun cs48 =>
  (M.ldc true 6 cs48 0).bind fun v49 =>
  (Γ 34 [(s47.1.getD 0 undefA), v49] s47.2.2).bind fun r50 =>
  (M.bin Tryz.prog .add 3 (.tmp 102) (.const (.int .i64 1)) (s47.1.getD 3 undefA) (.int .i64 1)).bind fun v51 =>
  a41 ([(s47.1.getD 0 undefA), (s47.1.getD 1 undefA), (s47.1.getD 2 undefA), v51], s47.2.1, r50.2)) fun j52 =>
  (M.bin Tryz.prog .gtr 3 (.tmp 107) (.const (.int .i64 0)) (s40.1.getD 3 undefA) (.int .i64 0)).bind fun v53 =>
  condEv v53
  ((Γ 31 [(s40.1.getD 0 undefA), (.isl 1 [(.str [44, 32])])] s40.2.2).bind fun r54 =>
  j52 ([(s40.1.getD 0 undefA), (s40.1.getD 1 undefA), (s40.1.getD 2 undefA), (s40.1.getD 3 undefA)], (Locs.put (Locs.put s40.2.1 5 [(.int .i64 0), (.str []), (.int .u32 0), (.bool false), nilSlice, (.int .i64 0)]) 5 cs46), r54.2))
  (j52 ([(s40.1.getD 0 undefA), (s40.1.getD 1 undefA), (s40.1.getD 2 undefA), (s40.1.getD 3 undefA)], (Locs.put (Locs.put s40.2.1 5 [(.int .i64 0), (.str []), (.int .u32 0), (.bool false), nilSlice, (.int .i64 0)]) 5 cs46), s40.2.2)))
  ((Γ 31 [(s40.1.getD 0 undefA), (.isl 1 [(.str [59])])] s40.2.2).bind fun r55 =>
  j3 ([(s40.1.getD 0 undefA)], s40.2.1, r55.2))
noncomputable def g22 (Γ : CallsT) (lp : LoopT Ans) (p0 : AV) (p1_0 : Int) (p1_1 : (List UInt8)) (p1_2 : Int) (p1_3 : Bool) (p1_4 : AV) (p1_5 : Int) (H : Heap) : Out Ans :=
  jn (fun s1 =>
  (Γ 31 [(s1.1.getD 0 undefA), (.isl 1 [(.str [10])])] s1.2.2).bind fun r2 =>
  .ok (gc (.tup []) H r2.2)) fun j3 =>
  condEv (.bool ((p1_0 == 49)))
  ((M.indexSl 6 p1_4 (.int .i64 0)).bind fun v4 =>
  (M.load true 6 v4 H.start).bind fun v5 =>
  (Γ 30 [p0, (.str [105, 102]), v5, (.str [10])] H.start).bind fun r6 =>
  (M.indexSl 6 p1_4 (.int .i64 1)).bind fun v7 =>
  (M.load true 6 v7 r6.2).bind fun v8 =>
  (Γ 22 [p0, v8] r6.2).bind fun r9 =>
  (M.len false p1_4).bind fun v10 =>
  (M.bin Tryz.prog .gtr 3 (.tmp 27) (.const (.int .i64 2)) v10 (.int .i64 2)).bind fun v11 =>
  condEv v11
  ((Γ 31 [p0, (.isl 1 [(.str [101, 108, 115, 101, 10])])] r9.2).bind fun r12 =>
  (M.indexSl 6 p1_4 (.int .i64 2)).bind fun v13 =>
  (M.load true 6 v13 r12.2).bind fun v14 =>
  (Γ 22 [p0, v14] r12.2).bind fun r15 =>
  .ok (gc (.tup []) H r15.2))
  (.ok (gc (.tup []) H r9.2)))
  (condEv (.bool ((p1_0 == 50)))
  ((M.indexSl 6 p1_4 (.int .i64 0)).bind fun v16 =>
  (M.load true 6 v16 H.start).bind fun v17 =>
  (Γ 30 [p0, (.str [119, 104, 105, 108, 101]), v17, (.str [10])] H.start).bind fun r18 =>
  (M.indexSl 6 p1_4 (.int .i64 1)).bind fun v19 =>
  (M.load true 6 v19 r18.2).bind fun v20 =>
  (Γ 22 [p0, v20] r18.2).bind fun r21 =>
  .ok (gc (.tup []) H r21.2))
  (condEv (.bool ((p1_0 == 52)))
  ((Γ 32 [p0, (.agg [(.int .i64 p1_0), (.str p1_1), (.int .u32 p1_2), (.bool p1_3), p1_4, (.int .i64 p1_5)])] H.start).bind fun r22 =>
  .ok (gc (.tup []) H r22.2))
  (condEv (.bool ((p1_0 == 51)))
  ((Γ 31 [p0, (.isl 1 [(.str [100, 111, 10])])] H.start).bind fun r23 =>
  (M.indexSl 6 p1_4 (.int .i64 0)).bind fun v24 =>
  (M.load true 6 v24 r23.2).bind fun v25 =>
  (Γ 22 [p0, v25] r23.2).bind fun r26 =>
  (M.indexSl 6 p1_4 (.int .i64 1)).bind fun v27 =>
  (M.load true 6 v27 r26.2).bind fun v28 =>
  (Γ 30 [p0, (.str [119, 104, 105, 108, 101]), v28, (.str [59])] r26.2).bind fun r29 =>
  j3 ([p0], [(3, [(.int .i64 p1_0), (.str p1_1), (.int .u32 p1_2), (.bool p1_3), p1_4, (.int .i64 p1_5)])], r29.2))
  (condEv (.bool ((p1_0 == 41)))
  ((Γ 31 [p0, (.isl 1 [(.str [115, 116, 114, 117, 99, 116, 32]), (.str p1_1), (.str [32])])] H.start).bind fun r30 =>
  (Γ 33 [p0, p1_4] r30.2).bind fun r31 =>
  (Γ 31 [p0, (.isl 1 [(.str [59])])] r31.2).bind fun r32 =>
  j3 ([p0], [(3, [(.int .i64 p1_0), (.str p1_1), (.int .u32 p1_2), (.bool p1_3), p1_4, (.int .i64 p1_5)])], r32.2))
  (condEv (.bool ((p1_0 == 42)))
  ((M.indexSl 6 p1_4 (.int .i64 0)).bind fun v33 =>
  (M.fieldAddr 1 v33).bind fun v34 =>
  (M.load false 1 v34 H.start).bind fun v35 =>
  (M.fill (fun i => some (i * 1, 1)) [(.str []), (.str [])] [(0, v35), (1, (.str [32]))]).bind fun cs36 =>
  (Γ 31 [p0, (.isl 1 (chunks false 1 2 cs36))] H.start).bind fun r37 =>
  (M.sliceSl 6 p1_4 (some (.int .i64 1)) none).bind fun v38 =>
  (M.len false v38).bind fun v39 =>
  lp (g22_l25 Γ lp j3) ([p0, v38, v39, (.int .i64 0)], [(3, [(.int .i64 p1_0), (.str p1_1), (.int .u32 p1_2), (.bool p1_3), p1_4, (.int .i64 p1_5)])], r37.2))
  (condEv (.bool ((p1_0 == 45)))
  ((Γ 35 [p0, (.agg [(.int .i64 p1_0), (.str p1_1), (.int .u32 p1_2), (.bool p1_3), p1_4, (.int .i64 p1_5)])] H.start).bind fun r56 =>
  j3 ([p0], [(3, [(.int .i64 p1_0), (.str p1_1), (.int .u32 p1_2), (.bool p1_3), p1_4, (.int .i64 p1_5)])], r56.2))
  (condEv (.bool ((p1_0 == 47)))
  ((Γ 33 [p0, p1_4] H.start).bind fun r57 =>
  j3 ([p0], [(3, [(.int .i64 p1_0), (.str p1_1), (.int .u32 p1_2), (.bool p1_3), p1_4, (.int .i64 p1_5)])], r57.2))
  ((Γ 36 [p0, (.agg [(.int .i64 p1_0), (.str p1_1), (.int .u32 p1_2), (.bool p1_3), p1_4, (.int .i64 p1_5)])] H.start).bind fun r58 =>
  j3 ([p0], [(3, [(.int .i64 p1_0), (.str p1_1), (.int .u32 p1_2), (.bool p1_3), p1_4, (.int .i64 p1_5)])], r58.2)))))))))
theorem u22 {glob : Nat → Option (List AV)} {prim : Nat → Option (List AV → Heap → Out (AV × Heap))} (hp : prim 22 = none) (Γ : CallsT) (lp : LoopT Ans) (p0 : AV) (p1_0 : Int) (p1_1 : (List UInt8)) (p1_2 : Int) (p1_3 : Bool) (p1_4 : AV) (p1_5 : Int) (H : Heap) : runF (X0 glob prim) lp Γ 22 [p0, (.agg [(.int .i64 p1_0), (.str p1_1), (.int .u32 p1_2), (.bool p1_3), p1_4, (.int .i64 p1_5)])] H = g22 Γ lp p0 p1_0 p1_1 p1_2 p1_3 p1_4 p1_5 H :=
  (runF_run hp (show trieF.get 22 = some Tryz.f22 by kernel_rfl) (by kernel_rfl) (by kernel_rfl)).trans (by kernel_rfl)
theorem c22 {glob : Nat → Option (List AV)} {prim : Nat → Option (List AV → Heap → Out (AV × Heap))} (hp : prim 22 = none) (p0 : AV) (p1_0 : Int) (p1_1 : (List UInt8)) (p1_2 : Int) (p1_3 : Bool) (p1_4 : AV) (p1_5 : Int) (H : Heap) {r : Ans} (h : g22 (callW (X0 glob prim)) loopW p0 p1_0 p1_1 p1_2 p1_3 p1_4 p1_5 H = .ok r) : callW (X0 glob prim) 22 [p0, (.agg [(.int .i64 p1_0), (.str p1_1), (.int .u32 p1_2), (.bool p1_3), p1_4, (.int .i64 p1_5)])] H = .ok r := callW_of ((u22 hp ..).trans h)
/- crucible/crucibleref08.parts -/
noncomputable def g23 (Γ : CallsT) (lp : LoopT Ans) (p0_0 : Int) (p0_1 : (List UInt8)) (p0_2 : Int) (p0_3 : Bool) (p0_4 : AV) (p0_5 : Int) (p1 : Bool) (p2 : Bool) (p3 : Bool) (H : Heap) : Out Ans :=
  (guardEv (some (.val (.bool p1))) false
  (.ok ((.str p0_1), H.start))
  (.ok (undefA, H.start))).bind fun q1 =>
  (guardEv (some (.val (.bool p1))) false
  ((M.bin Tryz.prog .eql 9 (.tmp 12) (.const (.string ⟨⟨[]⟩⟩)) q1.1 (.str [])).bind fun v2 =>
  .ok (v2, q1.2))
  (.ok (undefA, q1.2))).bind fun q3 =>
  (M.pick (.bool p1) (.bool true) q3.1).bind fun v4 =>
  (guardEv (some (.val v4)) true
  (.ok ((.bool p2), q3.2))
  (.ok (undefA, q3.2))).bind fun q5 =>
  (guardEv (some (.val v4)) true
  (.ok (q5.1, q5.2))
  (.ok (undefA, q5.2))).bind fun q6 =>
  (guardEv (some (.val q6.1)) false
  (.ok ((.int .u32 p0_2), q6.2))
  (.ok (undefA, q6.2))).bind fun q7 =>
  (guardEv (some (.val q6.1)) false
  ((M.bin Tryz.prog .eql 22 (.tmp 19) (.const (.int .u32 0)) q7.1 (.int .u32 0)).bind fun v8 =>
  .ok (v8, q7.2))
  (.ok (undefA, q7.2))).bind fun q9 =>
  (guardEv (some (.val v4)) true
  ((M.pick q6.1 (.bool true) q9.1).bind fun v10 =>
  .ok (v10, q9.2))
  (.ok (undefA, q9.2))).bind fun q11 =>
  (M.pick v4 q11.1 (.bool false)).bind fun v12 =>
  (guardEv (some (.val v12)) true
  (.ok ((.bool p3), q11.2))
  (.ok (undefA, q11.2))).bind fun q13 =>
  (guardEv (some (.val v12)) true
  (.ok (q13.1, q13.2))
  (.ok (undefA, q13.2))).bind fun q14 =>
  (guardEv (some (.val q14.1)) false
  (.ok ((.bool p0_3), q14.2))
  (.ok (undefA, q14.2))).bind fun q15 =>
  (guardEv (some (.val q14.1)) false
  ((M.un .not q15.1).bind fun v16 =>
  .ok (v16, q15.2))
  (.ok (undefA, q15.2))).bind fun q17 =>
  (guardEv (some (.val v12)) true
  ((M.pick q14.1 (.bool true) q17.1).bind fun v18 =>
  .ok (v18, q17.2))
  (.ok (undefA, q17.2))).bind fun q19 =>
  (M.pick v12 q19.1 (.bool false)).bind fun v20 =>
  .ok (gc v20 H q19.2)
theorem u23 {glob : Nat → Option (List AV)} {prim : Nat → Option (List AV → Heap → Out (AV × Heap))} (hp : prim 23 = none) (Γ : CallsT) (lp : LoopT Ans) (p0_0 : Int) (p0_1 : (List UInt8)) (p0_2 : Int) (p0_3 : Bool) (p0_4 : AV) (p0_5 : Int) (p1 : Bool) (p2 : Bool) (p3 : Bool) (H : Heap) : runF (X0 glob prim) lp Γ 23 [(.agg [(.int .i64 p0_0), (.str p0_1), (.int .u32 p0_2), (.bool p0_3), p0_4, (.int .i64 p0_5)]), (.bool p1), (.bool p2), (.bool p3)] H = g23 Γ lp p0_0 p0_1 p0_2 p0_3 p0_4 p0_5 p1 p2 p3 H :=
  (runF_run hp (show trieF.get 23 = some Tryz.f23 by kernel_rfl) (by kernel_rfl) (by kernel_rfl)).trans (by kernel_rfl)
theorem c23 {glob : Nat → Option (List AV)} {prim : Nat → Option (List AV → Heap → Out (AV × Heap))} (hp : prim 23 = none) (p0_0 : Int) (p0_1 : (List UInt8)) (p0_2 : Int) (p0_3 : Bool) (p0_4 : AV) (p0_5 : Int) (p1 : Bool) (p2 : Bool) (p3 : Bool) (H : Heap) {r : Ans} (h : g23 (callW (X0 glob prim)) loopW p0_0 p0_1 p0_2 p0_3 p0_4 p0_5 p1 p2 p3 H = .ok r) : callW (X0 glob prim) 23 [(.agg [(.int .i64 p0_0), (.str p0_1), (.int .u32 p0_2), (.bool p0_3), p0_4, (.int .i64 p0_5)]), (.bool p1), (.bool p2), (.bool p3)] H = .ok r := callW_of ((u23 hp ..).trans h)
/- crucible/crucibleref08.record -/
noncomputable def g24_l4 (Γ : CallsT) (lp : LoopT Ans) (H : Heap) : LS → (LS → Out Ans) → Out Ans := fun s13 a14 =>
  onO (Locs.find s13.2.1 1) fun cs15 =>
  (M.ldc false 1 cs15 4).bind fun v16 =>
  (M.len false v16).bind fun v17 =>
  (M.bin Tryz.prog .lss 3 (.tmp 18) (.tmp 21) (s13.1.getD 0 undefA) v17).bind fun v18 =>
  condEv v18
  (onO (Locs.find s13.2.1 1) fun cs19 =>
  (M.ldc false 1 cs19 4).bind fun v20 =>
  (M.indexSl 6 v20 (s13.1.getD 0 undefA)).bind fun v21 =>
  (M.load true 6 v21 s13.2.2).bind fun v22 =>
  (Γ 25 [v22, (.bool true)] s13.2.2).bind fun r23 =>
  (M.un .not r23.1).bind fun v24 =>
  condEv v24
  (.ok (gc (.bool false) H r23.2))
  ((M.bin Tryz.prog .add 3 (.tmp 23) (.const (.int .i64 1)) (s13.1.getD 0 undefA) (.int .i64 1)).bind fun v25 =>
  a14 ([v25], s13.2.1, r23.2)))
  (.ok (gc (.bool true) H s13.2.2))
noncomputable def g24 (Γ : CallsT) (lp : LoopT Ans) (p0_0 : Int) (p0_1 : (List UInt8)) (p0_2 : Int) (p0_3 : Bool) (p0_4 : AV) (p0_5 : Int) (H : Heap) : Out Ans :=
  (guardEv (some (.val (.bool ((p0_0 != 41))))) false
  (.ok ((.agg [(.int .i64 p0_0), (.str p0_1), (.int .u32 p0_2), (.bool p0_3), p0_4, (.int .i64 p0_5)]), H.start))
  (.ok (undefA, H.start))).bind fun q1 =>
  (guardEv (some (.val (.bool ((p0_0 != 41))))) false
  ((Γ 23 [q1.1, (.bool true), (.bool false), (.bool false)] q1.2).bind fun r2 =>
  .ok (r2.1, r2.2))
  (.ok (undefA, q1.2))).bind fun q3 =>
  (guardEv (some (.val (.bool ((p0_0 != 41))))) false
  ((M.un .not q3.1).bind fun v4 =>
  .ok (v4, q3.2))
  (.ok (undefA, q3.2))).bind fun q5 =>
  (M.pick (.bool ((p0_0 != 41))) (.bool true) q5.1).bind fun v6 =>
  (guardEv (some (.val v6)) false
  (.ok ((.str p0_1), q5.2))
  (.ok (undefA, q5.2))).bind fun q7 =>
  (guardEv (some (.val v6)) false
  ((Γ 37 [q7.1] q7.2).bind fun r8 =>
  .ok (r8.1, r8.2))
  (.ok (undefA, q7.2))).bind fun q9 =>
  (guardEv (some (.val v6)) false
  ((M.un .not q9.1).bind fun v10 =>
  .ok (v10, q9.2))
  (.ok (undefA, q9.2))).bind fun q11 =>
  (M.pick v6 (.bool true) q11.1).bind fun v12 =>
  condEv v12
  (.ok (gc (.bool false) H q11.2))
  (lp (g24_l4 Γ lp H) ([(.int .i64 0)], [(1, [(.int .i64 p0_0), (.str p0_1), (.int .u32 p0_2), (.bool p0_3), p0_4, (.int .i64 p0_5)])], q11.2))
theorem u24 {glob : Nat → Option (List AV)} {prim : Nat → Option (List AV → Heap → Out (AV × Heap))} (hp : prim 24 = none) (Γ : CallsT) (lp : LoopT Ans) (p0_0 : Int) (p0_1 : (List UInt8)) (p0_2 : Int) (p0_3 : Bool) (p0_4 : AV) (p0_5 : Int) (H : Heap) : runF (X0 glob prim) lp Γ 24 [(.agg [(.int .i64 p0_0), (.str p0_1), (.int .u32 p0_2), (.bool p0_3), p0_4, (.int .i64 p0_5)])] H = g24 Γ lp p0_0 p0_1 p0_2 p0_3 p0_4 p0_5 H :=
  (runF_run hp (show trieF.get 24 = some Tryz.f24 by kernel_rfl) (by kernel_rfl) (by kernel_rfl)).trans (by kernel_rfl)
theorem c24 {glob : Nat → Option (List AV)} {prim : Nat → Option (List AV → Heap → Out (AV × Heap))} (hp : prim 24 = none) (p0_0 : Int) (p0_1 : (List UInt8)) (p0_2 : Int) (p0_3 : Bool) (p0_4 : AV) (p0_5 : Int) (H : Heap) {r : Ans} (h : g24 (callW (X0 glob prim)) loopW p0_0 p0_1 p0_2 p0_3 p0_4 p0_5 H = .ok r) : callW (X0 glob prim) 24 [(.agg [(.int .i64 p0_0), (.str p0_1), (.int .u32 p0_2), (.bool p0_3), p0_4, (.int .i64 p0_5)])] H = .ok r := callW_of ((u24 hp ..).trans h)
/- crucible/crucibleref08.vars -/
noncomputable def g25_l4 (Γ : CallsT) (lp : LoopT Ans) (H : Heap) : LS → (LS → Out Ans) → Out Ans := fun s23 a24 =>
  onO (Locs.find s23.2.1 2) fun cs25 =>
  (M.ldc false 1 cs25 4).bind fun v26 =>
  (M.len false v26).bind fun v27 =>
  (M.bin Tryz.prog .lss 3 (.tmp 28) (.tmp 31) (s23.1.getD 1 undefA) v27).bind fun v28 =>
  condEv v28
  (onO (Locs.find s23.2.1 2) fun cs29 =>
  (M.ldc false 1 cs29 4).bind fun v30 =>
  (M.indexSl 6 v30 (s23.1.getD 1 undefA)).bind fun v31 =>
  (M.load true 6 v31 s23.2.2).bind fun v32 =>
  (Γ 39 [v32, (s23.1.getD 0 undefA)] s23.2.2).bind fun r33 =>
  (M.un .not r33.1).bind fun v34 =>
  condEv v34
  (.ok (gc (.bool false) H r33.2))
  ((M.bin Tryz.prog .add 3 (.tmp 33) (.const (.int .i64 1)) (s23.1.getD 1 undefA) (.int .i64 1)).bind fun v35 =>
  a24 ([(s23.1.getD 0 undefA), v35], s23.2.1, r33.2)))
  (.ok (gc (.bool true) H s23.2.2))
noncomputable def g25 (Γ : CallsT) (lp : LoopT Ans) (p0_0 : Int) (p0_1 : (List UInt8)) (p0_2 : Int) (p0_3 : Bool) (p0_4 : AV) (p0_5 : Int) (p1 : Bool) (H : Heap) : Out Ans :=
  (guardEv (some (.val (.bool ((p0_0 != 42))))) false
  (.ok ((.agg [(.int .i64 p0_0), (.str p0_1), (.int .u32 p0_2), (.bool p0_3), p0_4, (.int .i64 p0_5)]), H.start))
  (.ok (undefA, H.start))).bind fun q1 =>
  (guardEv (some (.val (.bool ((p0_0 != 42))))) false
  ((Γ 23 [q1.1, (.bool false), (.bool false), (.bool false)] q1.2).bind fun r2 =>
  .ok (r2.1, r2.2))
  (.ok (undefA, q1.2))).bind fun q3 =>
  (guardEv (some (.val (.bool ((p0_0 != 42))))) false
  ((M.un .not q3.1).bind fun v4 =>
  .ok (v4, q3.2))
  (.ok (undefA, q3.2))).bind fun q5 =>
  (M.pick (.bool ((p0_0 != 42))) (.bool true) q5.1).bind fun v6 =>
  (guardEv (some (.val v6)) false
  (.ok (p0_4, q5.2))
  (.ok (undefA, q5.2))).bind fun q7 =>
  (guardEv (some (.val v6)) false
  ((M.len false q7.1).bind fun v8 =>
  .ok (v8, q7.2))
  (.ok (undefA, q7.2))).bind fun q9 =>
  (guardEv (some (.val v6)) false
  ((M.bin Tryz.prog .lss 3 (.tmp 17) (.const (.int .i64 2)) q9.1 (.int .i64 2)).bind fun v10 =>
  .ok (v10, q9.2))
  (.ok (undefA, q9.2))).bind fun q11 =>
  (M.pick v6 (.bool true) q11.1).bind fun v12 =>
  (guardEv (some (.val v12)) false
  (.ok (p0_4, q11.2))
  (.ok (undefA, q11.2))).bind fun q13 =>
  (guardEv (some (.val v12)) false
  ((M.indexSl 6 q13.1 (.int .i64 0)).bind fun v14 =>
  .ok (v14, q13.2))
  (.ok (undefA, q13.2))).bind fun q15 =>
  (guardEv (some (.val v12)) false
  ((M.load true 6 q15.1 q15.2).bind fun v16 =>
  .ok (v16, q15.2))
  (.ok (undefA, q15.2))).bind fun q17 =>
  (guardEv (some (.val v12)) false
  ((Γ 38 [q17.1] q17.2).bind fun r18 =>
  .ok (r18.1, r18.2))
  (.ok (undefA, q17.2))).bind fun q19 =>
  (guardEv (some (.val v12)) false
  ((M.un .not q19.1).bind fun v20 =>
  .ok (v20, q19.2))
  (.ok (undefA, q19.2))).bind fun q21 =>
  (M.pick v12 (.bool true) q21.1).bind fun v22 =>
  condEv v22
  (.ok (gc (.bool false) H q21.2))
  (lp (g25_l4 Γ lp H) ([(.bool p1), (.int .i64 1)], [(2, [(.int .i64 p0_0), (.str p0_1), (.int .u32 p0_2), (.bool p0_3), p0_4, (.int .i64 p0_5)])], q21.2))
theorem u25 {glob : Nat → Option (List AV)} {prim : Nat → Option (List AV → Heap → Out (AV × Heap))} (hp : prim 25 = none) (Γ : CallsT) (lp : LoopT Ans) (p0_0 : Int) (p0_1 : (List UInt8)) (p0_2 : Int) (p0_3 : Bool) (p0_4 : AV) (p0_5 : Int) (p1 : Bool) (H : Heap) : runF (X0 glob prim) lp Γ 25 [(.agg [(.int .i64 p0_0), (.str p0_1), (.int .u32 p0_2), (.bool p0_3), p0_4, (.int .i64 p0_5)]), (.bool p1)] H = g25 Γ lp p0_0 p0_1 p0_2 p0_3 p0_4 p0_5 p1 H :=
  (runF_run hp (show trieF.get 25 = some Tryz.f25 by kernel_rfl) (by kernel_rfl) (by kernel_rfl)).trans (by kernel_rfl)
theorem c25 {glob : Nat → Option (List AV)} {prim : Nat → Option (List AV → Heap → Out (AV × Heap))} (hp : prim 25 = none) (p0_0 : Int) (p0_1 : (List UInt8)) (p0_2 : Int) (p0_3 : Bool) (p0_4 : AV) (p0_5 : Int) (p1 : Bool) (H : Heap) {r : Ans} (h : g25 (callW (X0 glob prim)) loopW p0_0 p0_1 p0_2 p0_3 p0_4 p0_5 p1 H = .ok r) : callW (X0 glob prim) 25 [(.agg [(.int .i64 p0_0), (.str p0_1), (.int .u32 p0_2), (.bool p0_3), p0_4, (.int .i64 p0_5)]), (.bool p1)] H = .ok r := callW_of ((u25 hp ..).trans h)
/- crucible/crucibleref08.function -/
noncomputable def g26_l5 (Γ : CallsT) (lp : LoopT Ans) (H : Heap) : LS → (LS → Out Ans) → Out Ans := fun s40 a41 =>
  (M.bin Tryz.prog .lss 3 (.tmp 45) (.tmp 46) (s40.1.getD 1 undefA) (s40.1.getD 0 undefA)).bind fun v42 =>
  condEv v42
  (onO (Locs.find s40.2.1 1) fun cs43 =>
  (M.ldc false 1 cs43 4).bind fun v44 =>
  (M.indexSl 6 v44 (s40.1.getD 1 undefA)).bind fun v45 =>
  (M.load true 6 v45 s40.2.2).bind fun v46 =>
  onO (Locs.find (Locs.put s40.2.1 5 [(.int .i64 0), (.str []), (.int .u32 0), (.bool false), nilSlice, (.int .i64 0)]) 5) fun cs47 =>
  (M.stc 6 cs47 0 v46).bind fun cs48 =>
  onO (Locs.find (Locs.put (Locs.put s40.2.1 5 [(.int .i64 0), (.str []), (.int .u32 0), (.bool false), nilSlice, (.int .i64 0)]) 5 cs48) 5) fun cs49 =>
  (M.ldc false 1 cs49 0).bind fun v50 =>
  (M.bin Tryz.prog .neq 3 (.tmp 56) (.const (.int .i64 46)) v50 (.int .i64 46)).bind fun v51 =>
  (guardEv (some (.val v51)) false
  (onO (Locs.find (Locs.put (Locs.put s40.2.1 5 [(.int .i64 0), (.str []), (.int .u32 0), (.bool false), nilSlice, (.int .i64 0)]) 5 cs48) 5) fun cs52 =>
  (M.ldc true 6 cs52 0).bind fun v53 =>
  .ok (v53, s40.2.2))
  (.ok (undefA, s40.2.2))).bind fun q54 =>
  (guardEv (some (.val v51)) false
  ((Γ 23 [q54.1, (.bool true), (.bool true), (.bool true)] q54.2).bind fun r55 =>
  .ok (r55.1, r55.2))
  (.ok (undefA, q54.2))).bind fun q56 =>
  (guardEv (some (.val v51)) false
  ((M.un .not q56.1).bind fun v57 =>
  .ok (v57, q56.2))
  (.ok (undefA, q56.2))).bind fun q58 =>
  (M.pick v51 (.bool true) q58.1).bind fun v59 =>
  (guardEv (some (.val v59)) false
  (onO (Locs.find (Locs.put (Locs.put s40.2.1 5 [(.int .i64 0), (.str []), (.int .u32 0), (.bool false), nilSlice, (.int .i64 0)]) 5 cs48) 5) fun cs60 =>
  (M.ldc false 1 cs60 2).bind fun v61 =>
  .ok (v61, q58.2))
  (.ok (undefA, q58.2))).bind fun q62 =>
  (guardEv (some (.val v59)) false
  ((M.bin Tryz.prog .gtr 22 (.tmp 65) (.const (.int .u32 1)) q62.1 (.int .u32 1)).bind fun v63 =>
  .ok (v63, q62.2))
  (.ok (undefA, q62.2))).bind fun q64 =>
  (M.pick v59 (.bool true) q64.1).bind fun v65 =>
  (guardEv (some (.val v65)) false
  (onO (Locs.find (Locs.put (Locs.put s40.2.1 5 [(.int .i64 0), (.str []), (.int .u32 0), (.bool false), nilSlice, (.int .i64 0)]) 5 cs48) 5) fun cs66 =>
  (M.ldc false 1 cs66 3).bind fun v67 =>
  .ok (v67, q64.2))
  (.ok (undefA, q64.2))).bind fun q68 =>
  (guardEv (some (.val v65)) false
  (.ok (q68.1, q68.2))
  (.ok (undefA, q68.2))).bind fun q69 =>
  (guardEv (some (.val q69.1)) true
  (onO (Locs.find (Locs.put (Locs.put s40.2.1 5 [(.int .i64 0), (.str []), (.int .u32 0), (.bool false), nilSlice, (.int .i64 0)]) 5 cs48) 5) fun cs70 =>
  (M.ldc false 1 cs70 2).bind fun v71 =>
  .ok (v71, q69.2))
  (.ok (undefA, q69.2))).bind fun q72 =>
  (guardEv (some (.val q69.1)) true
  ((M.bin Tryz.prog .eql 22 (.tmp 73) (.const (.int .u32 1)) q72.1 (.int .u32 1)).bind fun v73 =>
  .ok (v73, q72.2))
  (.ok (undefA, q72.2))).bind fun q74 =>
  (guardEv (some (.val v65)) false
  ((M.pick q69.1 q74.1 (.bool false)).bind fun v75 =>
  .ok (v75, q74.2))
  (.ok (undefA, q74.2))).bind fun q76 =>
  (M.pick v65 (.bool true) q76.1).bind fun v77 =>
  (guardEv (some (.val v77)) false
  (onO (Locs.find (Locs.put (Locs.put s40.2.1 5 [(.int .i64 0), (.str []), (.int .u32 0), (.bool false), nilSlice, (.int .i64 0)]) 5 cs48) 5) fun cs78 =>
  (M.ldc false 1 cs78 1).bind fun v79 =>
  .ok (v79, q76.2))
  (.ok (undefA, q76.2))).bind fun q80 =>
  (guardEv (some (.val v77)) false
  ((Γ 37 [q80.1] q80.2).bind fun r81 =>
  .ok (r81.1, r81.2))
  (.ok (undefA, q80.2))).bind fun q82 =>
  (guardEv (some (.val v77)) false
  ((M.un .not q82.1).bind fun v83 =>
  .ok (v83, q82.2))
  (.ok (undefA, q82.2))).bind fun q84 =>
  (M.pick v77 (.bool true) q84.1).bind fun v85 =>
  (guardEv (some (.val v85)) false
  (onO (Locs.find (Locs.put (Locs.put s40.2.1 5 [(.int .i64 0), (.str []), (.int .u32 0), (.bool false), nilSlice, (.int .i64 0)]) 5 cs48) 5) fun cs86 =>
  (M.ldc false 1 cs86 4).bind fun v87 =>
  .ok (v87, q84.2))
  (.ok (undefA, q84.2))).bind fun q88 =>
  (guardEv (some (.val v85)) false
  ((M.len false q88.1).bind fun v89 =>
  .ok (v89, q88.2))
  (.ok (undefA, q88.2))).bind fun q90 =>
  (guardEv (some (.val v85)) false
  ((M.bin Tryz.prog .neq 3 (.tmp 86) (.const (.int .i64 1)) q90.1 (.int .i64 1)).bind fun v91 =>
  .ok (v91, q90.2))
  (.ok (undefA, q90.2))).bind fun q92 =>
  (M.pick v85 (.bool true) q92.1).bind fun v93 =>
  (guardEv (some (.val v93)) false
  (onO (Locs.find (Locs.put (Locs.put s40.2.1 5 [(.int .i64 0), (.str []), (.int .u32 0), (.bool false), nilSlice, (.int .i64 0)]) 5 cs48) 5) fun cs94 =>
  (M.ldc false 1 cs94 4).bind fun v95 =>
  .ok (v95, q92.2))
  (.ok (undefA, q92.2))).bind fun q96 =>
  (guardEv (some (.val v93)) false
  ((M.indexSl 6 q96.1 (.int .i64 0)).bind fun v97 =>
  .ok (v97, q96.2))
  (.ok (undefA, q96.2))).bind fun q98 =>
  (guardEv (some (.val v93)) false
  ((M.load true 6 q98.1 q98.2).bind fun v99 =>
  .ok (v99, q98.2))
  (.ok (undefA, q98.2))).bind fun q100 =>
  (guardEv (some (.val v93)) false
  ((Γ 38 [q100.1] q100.2).bind fun r101 =>
  .ok (r101.1, r101.2))
  (.ok (undefA, q100.2))).bind fun q102 =>
  (guardEv (some (.val v93)) false
  ((M.un .not q102.1).bind fun v103 =>
  .ok (v103, q102.2))
  (.ok (undefA, q102.2))).bind fun q104 =>
  (M.pick v93 (.bool true) q104.1).bind fun v105 =>
  condEv v105
  (.ok (gc (.bool false) H q104.2))
  ((M.bin Tryz.prog .add 3 (.tmp 48) (.const (.int .i64 1)) (s40.1.getD 1 undefA) (.int .i64 1)).bind fun v106 =>
  a41 ([(s40.1.getD 0 undefA), v106], (Locs.put (Locs.put s40.2.1 5 [(.int .i64 0), (.str []), (.int .u32 0), (.bool false), nilSlice, (.int .i64 0)]) 5 cs48), q104.2)))
  (.ok (gc (.bool true) H s40.2.2))
noncomputable def g26 (Γ : CallsT) (lp : LoopT Ans) (p0_0 : Int) (p0_1 : (List UInt8)) (p0_2 : Int) (p0_3 : Bool) (p0_4 : AV) (p0_5 : Int) (H : Heap) : Out Ans :=
  (M.len false p0_4).bind fun v1 =>
  (M.bin Tryz.prog .sub 3 (.tmp 8) (.const (.int .i64 1)) v1 (.int .i64 1)).bind fun v2 =>
  (guardEv (some (.val (.bool ((p0_0 != 45))))) false
  (.ok ((.agg [(.int .i64 p0_0), (.str p0_1), (.int .u32 p0_2), (.bool p0_3), p0_4, (.int .i64 p0_5)]), H.start))
  (.ok (undefA, H.start))).bind fun q3 =>
  (guardEv (some (.val (.bool ((p0_0 != 45))))) false
  ((Γ 23 [q3.1, (.bool true), (.bool false), (.bool false)] q3.2).bind fun r4 =>
  .ok (r4.1, r4.2))
  (.ok (undefA, q3.2))).bind fun q5 =>
  (guardEv (some (.val (.bool ((p0_0 != 45))))) false
  ((M.un .not q5.1).bind fun v6 =>
  .ok (v6, q5.2))
  (.ok (undefA, q5.2))).bind fun q7 =>
  (M.pick (.bool ((p0_0 != 45))) (.bool true) q7.1).bind fun v8 =>
  (guardEv (some (.val v8)) false
  (.ok ((.str p0_1), q7.2))
  (.ok (undefA, q7.2))).bind fun q9 =>
  (guardEv (some (.val v8)) false
  ((Γ 37 [q9.1] q9.2).bind fun r10 =>
  .ok (r10.1, r10.2))
  (.ok (undefA, q9.2))).bind fun q11 =>
  (guardEv (some (.val v8)) false
  ((M.un .not q11.1).bind fun v12 =>
  .ok (v12, q11.2))
  (.ok (undefA, q11.2))).bind fun q13 =>
  (M.pick v8 (.bool true) q13.1).bind fun v14 =>
  (guardEv (some (.val v14)) false
  (.ok (v2, q13.2))
  (.ok (undefA, q13.2))).bind fun q15 =>
  (guardEv (some (.val v14)) false
  ((M.bin Tryz.prog .lss 3 (.tmp 25) (.const (.int .i64 1)) q15.1 (.int .i64 1)).bind fun v16 =>
  .ok (v16, q15.2))
  (.ok (undefA, q15.2))).bind fun q17 =>
  (M.pick v14 (.bool true) q17.1).bind fun v18 =>
  (guardEv (some (.val v18)) false
  (.ok (p0_4, q17.2))
  (.ok (undefA, q17.2))).bind fun q19 =>
  (guardEv (some (.val v18)) false
  ((M.indexSl 6 q19.1 (.int .i64 0)).bind fun v20 =>
  .ok (v20, q19.2))
  (.ok (undefA, q19.2))).bind fun q21 =>
  (guardEv (some (.val v18)) false
  ((M.load true 6 q21.1 q21.2).bind fun v22 =>
  .ok (v22, q21.2))
  (.ok (undefA, q21.2))).bind fun q23 =>
  (guardEv (some (.val v18)) false
  ((Γ 38 [q23.1] q23.2).bind fun r24 =>
  .ok (r24.1, r24.2))
  (.ok (undefA, q23.2))).bind fun q25 =>
  (guardEv (some (.val v18)) false
  ((M.un .not q25.1).bind fun v26 =>
  .ok (v26, q25.2))
  (.ok (undefA, q25.2))).bind fun q27 =>
  (M.pick v18 (.bool true) q27.1).bind fun v28 =>
  (guardEv (some (.val v28)) false
  (.ok (p0_4, q27.2))
  (.ok (undefA, q27.2))).bind fun q29 =>
  (guardEv (some (.val v28)) false
  (.ok (v2, q29.2))
  (.ok (undefA, q29.2))).bind fun q30 =>
  (guardEv (some (.val v28)) false
  ((M.indexSl 6 q29.1 q30.1).bind fun v31 =>
  .ok (v31, q30.2))
  (.ok (undefA, q30.2))).bind fun q32 =>
  (guardEv (some (.val v28)) false
  ((M.load true 6 q32.1 q32.2).bind fun v33 =>
  .ok (v33, q32.2))
  (.ok (undefA, q32.2))).bind fun q34 =>
  (guardEv (some (.val v28)) false
  ((Γ 40 [q34.1] q34.2).bind fun r35 =>
  .ok (r35.1, r35.2))
  (.ok (undefA, q34.2))).bind fun q36 =>
  (guardEv (some (.val v28)) false
  ((M.un .not q36.1).bind fun v37 =>
  .ok (v37, q36.2))
  (.ok (undefA, q36.2))).bind fun q38 =>
  (M.pick v28 (.bool true) q38.1).bind fun v39 =>
  condEv v39
  (.ok (gc (.bool false) H q38.2))
  (lp (g26_l5 Γ lp H) ([v2, (.int .i64 1)], [(1, [(.int .i64 p0_0), (.str p0_1), (.int .u32 p0_2), (.bool p0_3), p0_4, (.int .i64 p0_5)])], q38.2))
theorem u26 {glob : Nat → Option (List AV)} {prim : Nat → Option (List AV → Heap → Out (AV × Heap))} (hp : prim 26 = none) (Γ : CallsT) (lp : LoopT Ans) (p0_0 : Int) (p0_1 : (List UInt8)) (p0_2 : Int) (p0_3 : Bool) (p0_4 : AV) (p0_5 : Int) (H : Heap) : runF (X0 glob prim) lp Γ 26 [(.agg [(.int .i64 p0_0), (.str p0_1), (.int .u32 p0_2), (.bool p0_3), p0_4, (.int .i64 p0_5)])] H = g26 Γ lp p0_0 p0_1 p0_2 p0_3 p0_4 p0_5 H :=
  (runF_run hp (show trieF.get 26 = some Tryz.f26 by kernel_rfl) (by kernel_rfl) (by kernel_rfl)).trans (by kernel_rfl)
theorem c26 {glob : Nat → Option (List AV)} {prim : Nat → Option (List AV → Heap → Out (AV × Heap))} (hp : prim 26 = none) (p0_0 : Int) (p0_1 : (List UInt8)) (p0_2 : Int) (p0_3 : Bool) (p0_4 : AV) (p0_5 : Int) (H : Heap) {r : Ans} (h : g26 (callW (X0 glob prim)) loopW p0_0 p0_1 p0_2 p0_3 p0_4 p0_5 H = .ok r) : callW (X0 glob prim) 26 [(.agg [(.int .i64 p0_0), (.str p0_1), (.int .u32 p0_2), (.bool p0_3), p0_4, (.int .i64 p0_5)])] H = .ok r := callW_of ((u26 hp ..).trans h)
/- crucible/crucibleref08.line -/
noncomputable def g27_l9 (Γ : CallsT) (lp : LoopT Ans) (H : Heap) : LS → (LS → Out Ans) → Out Ans := fun s11 a12 =>
  onO (Locs.find s11.2.1 3) fun cs13 =>
  (M.ldc false 1 cs13 4).bind fun v14 =>
  (M.len false v14).bind fun v15 =>
  (M.bin Tryz.prog .lss 3 (.tmp 31) (.tmp 34) (s11.1.getD 1 undefA) v15).bind fun v16 =>
  condEv v16
  (jn (fun s17 =>
  onO (Locs.find s17.2.1 3) fun cs18 =>
  (M.ldc false 1 cs18 4).bind fun v19 =>
  (M.indexSl 6 v19 (s17.1.getD 1 undefA)).bind fun v20 =>
  (M.load true 6 v20 s17.2.2).bind fun v21 =>
  (Γ 42 [(s17.1.getD 0 undefA), v21] s17.2.2).bind fun r22 =>
  (M.bin Tryz.prog .add 3 (.tmp 36) (.const (.int .i64 1)) (s17.1.getD 1 undefA) (.int .i64 1)).bind fun v23 =>
  a12 ([(s17.1.getD 0 undefA), v23], s17.2.1, r22.2)) fun j24 =>
  (M.bin Tryz.prog .gtr 3 (.tmp 38) (.const (.int .i64 1)) (s11.1.getD 1 undefA) (.int .i64 1)).bind fun v25 =>
  condEv v25
  ((Γ 41 [(s11.1.getD 0 undefA), (.str [44, 32])] s11.2.2).bind fun r26 =>
  j24 ([(s11.1.getD 0 undefA), (s11.1.getD 1 undefA)], s11.2.1, r26.2))
  (j24 ([(s11.1.getD 0 undefA), (s11.1.getD 1 undefA)], s11.2.1, s11.2.2)))
  ((Γ 41 [(s11.1.getD 0 undefA), (.str [59, 10])] s11.2.2).bind fun r27 =>
  .ok (gc (.tup []) H r27.2))
noncomputable def g27 (Γ : CallsT) (lp : LoopT Ans) (p0 : AV) (p1_0 : Int) (p1_1 : (List UInt8)) (p1_2 : Int) (p1_3 : Bool) (p1_4 : AV) (p1_5 : Int) (H : Heap) : Out Ans :=
  condEv (.bool ((p1_0 == 41)))
  ((M.bin Tryz.prog .add 9 (.const (.string ⟨⟨[115, 116, 114, 117, 99, 116, 32]⟩⟩)) (.tmp 11) (.str [115, 116, 114, 117, 99, 116, 32]) (.str p1_1)).bind fun v1 =>
  (M.bin Tryz.prog .add 9 (.tmp 12) (.const (.string ⟨⟨[32, 123, 10]⟩⟩)) v1 (.str [32, 123, 10])).bind fun v2 =>
  (Γ 41 [p0, v2] H.start).bind fun r3 =>
  (Γ 16 [p0, p1_4] r3.2).bind fun r4 =>
  (Γ 41 [p0, (.str [125, 59, 10])] r4.2).bind fun r5 =>
  .ok (gc (.tup []) H r5.2))
  (condEv (.bool ((p1_0 == 42)))
  ((M.indexSl 6 p1_4 (.int .i64 0)).bind fun v6 =>
  (M.fieldAddr 1 v6).bind fun v7 =>
  (M.load false 1 v7 H.start).bind fun v8 =>
  (M.bin Tryz.prog .add 9 (.tmp 28) (.const (.string ⟨⟨[32]⟩⟩)) v8 (.str [32])).bind fun v9 =>
  (Γ 41 [p0, v9] H.start).bind fun r10 =>
  lp (g27_l9 Γ lp H) ([p0, (.int .i64 1)], [(3, [(.int .i64 p1_0), (.str p1_1), (.int .u32 p1_2), (.bool p1_3), p1_4, (.int .i64 p1_5)])], r10.2))
  (condEv (.bool ((p1_0 == 45)))
  ((Γ 43 [p0, (.agg [(.int .i64 p1_0), (.str p1_1), (.int .u32 p1_2), (.bool p1_3), p1_4, (.int .i64 p1_5)])] H.start).bind fun r28 =>
  .ok (gc (.tup []) H r28.2))
  (condEv (.bool ((p1_0 == 47)))
  ((Γ 41 [p0, (.str [123, 10])] H.start).bind fun r29 =>
  (Γ 16 [p0, p1_4] r29.2).bind fun r30 =>
  (Γ 41 [p0, (.str [125, 10])] r30.2).bind fun r31 =>
  .ok (gc (.tup []) H r31.2))
  (condEv (.bool ((p1_0 == 48)))
  ((M.indexSl 6 p1_4 (.int .i64 0)).bind fun v32 =>
  (M.load true 6 v32 H.start).bind fun v33 =>
  (Γ 44 [p0, v33, (.int .i64 0)] H.start).bind fun r34 =>
  (Γ 41 [p0, (.str [59, 10])] r34.2).bind fun r35 =>
  .ok (gc (.tup []) H r35.2))
  (condEv (.bool ((p1_0 == 49)))
  ((M.indexSl 6 p1_4 (.int .i64 0)).bind fun v36 =>
  (M.load true 6 v36 H.start).bind fun v37 =>
  (Γ 45 [p0, (.str [105, 102]), v37, (.str [10])] H.start).bind fun r38 =>
  (M.indexSl 6 p1_4 (.int .i64 1)).bind fun v39 =>
  (M.load true 6 v39 r38.2).bind fun v40 =>
  (Γ 27 [p0, v40] r38.2).bind fun r41 =>
  (M.len false p1_4).bind fun v42 =>
  (M.bin Tryz.prog .eql 3 (.tmp 92) (.const (.int .i64 3)) v42 (.int .i64 3)).bind fun v43 =>
  condEv v43
  ((Γ 41 [p0, (.str [101, 108, 115, 101, 10])] r41.2).bind fun r44 =>
  (M.indexSl 6 p1_4 (.int .i64 2)).bind fun v45 =>
  (M.load true 6 v45 r44.2).bind fun v46 =>
  (Γ 27 [p0, v46] r44.2).bind fun r47 =>
  .ok (gc (.tup []) H r47.2))
  (.ok (gc (.tup []) H r41.2)))
  (condEv (.bool ((p1_0 == 50)))
  ((M.indexSl 6 p1_4 (.int .i64 0)).bind fun v48 =>
  (M.load true 6 v48 H.start).bind fun v49 =>
  (Γ 45 [p0, (.str [119, 104, 105, 108, 101]), v49, (.str [10])] H.start).bind fun r50 =>
  (M.indexSl 6 p1_4 (.int .i64 1)).bind fun v51 =>
  (M.load true 6 v51 r50.2).bind fun v52 =>
  (Γ 27 [p0, v52] r50.2).bind fun r53 =>
  .ok (gc (.tup []) H r53.2))
  (condEv (.bool ((p1_0 == 51)))
  ((Γ 41 [p0, (.str [100, 111, 10])] H.start).bind fun r54 =>
  (M.indexSl 6 p1_4 (.int .i64 0)).bind fun v55 =>
  (M.load true 6 v55 r54.2).bind fun v56 =>
  (Γ 27 [p0, v56] r54.2).bind fun r57 =>
  (M.indexSl 6 p1_4 (.int .i64 1)).bind fun v58 =>
  (M.load true 6 v58 r57.2).bind fun v59 =>
  (Γ 45 [p0, (.str [119, 104, 105, 108, 101]), v59, (.str [59, 10])] r57.2).bind fun r60 =>
  .ok (gc (.tup []) H r60.2))
  (condEv (.bool ((p1_0 == 52)))
  ((Γ 46 [p0, (.agg [(.int .i64 p1_0), (.str p1_1), (.int .u32 p1_2), (.bool p1_3), p1_4, (.int .i64 p1_5)])] H.start).bind fun r61 =>
  .ok (gc (.tup []) H r61.2))
  (condEv (.bool ((p1_0 == 53)))
  ((Γ 41 [p0, (.str [98, 114, 101, 97, 107, 59, 10])] H.start).bind fun r62 =>
  .ok (gc (.tup []) H r62.2))
  (condEv (.bool ((p1_0 == 54)))
  ((Γ 41 [p0, (.str [99, 111, 110, 116, 105, 110, 117, 101, 59, 10])] H.start).bind fun r63 =>
  .ok (gc (.tup []) H r63.2))
  (condEv (.bool ((p1_0 == 56)))
  ((Γ 41 [p0, (.str [59, 10])] H.start).bind fun r64 =>
  .ok (gc (.tup []) H r64.2))
  (condEv (.bool ((p1_0 == 55)))
  ((Γ 41 [p0, (.str [114, 101, 116, 117, 114, 110])] H.start).bind fun r65 =>
  jn (fun s66 =>
  (Γ 41 [(s66.1.getD 0 undefA), (.str [59, 10])] s66.2.2).bind fun r67 =>
  .ok (gc (.tup []) H r67.2)) fun j68 =>
  (M.len false p1_4).bind fun v69 =>
  (M.bin Tryz.prog .eql 3 (.tmp 155) (.const (.int .i64 1)) v69 (.int .i64 1)).bind fun v70 =>
  condEv v70
  ((Γ 41 [p0, (.str [32])] r65.2).bind fun r71 =>
  (M.indexSl 6 p1_4 (.int .i64 0)).bind fun v72 =>
  (M.load true 6 v72 r71.2).bind fun v73 =>
  (Γ 44 [p0, v73, (.int .i64 0)] r71.2).bind fun r74 =>
  j68 ([p0], [(3, [(.int .i64 p1_0), (.str p1_1), (.int .u32 p1_2), (.bool p1_3), p1_4, (.int .i64 p1_5)])], r74.2))
  (j68 ([p0], [(3, [(.int .i64 p1_0), (.str p1_1), (.int .u32 p1_2), (.bool p1_3), p1_4, (.int .i64 p1_5)])], r65.2)))
  (.ok (gc (.tup []) H H.start))))))))))))))
theorem u27 {glob : Nat → Option (List AV)} {prim : Nat → Option (List AV → Heap → Out (AV × Heap))} (hp : prim 27 = none) (Γ : CallsT) (lp : LoopT Ans) (p0 : AV) (p1_0 : Int) (p1_1 : (List UInt8)) (p1_2 : Int) (p1_3 : Bool) (p1_4 : AV) (p1_5 : Int) (H : Heap) : runF (X0 glob prim) lp Γ 27 [p0, (.agg [(.int .i64 p1_0), (.str p1_1), (.int .u32 p1_2), (.bool p1_3), p1_4, (.int .i64 p1_5)])] H = g27 Γ lp p0 p1_0 p1_1 p1_2 p1_3 p1_4 p1_5 H :=
  (runF_run hp (show trieF.get 27 = some Tryz.f27 by kernel_rfl) (by kernel_rfl) (by kernel_rfl)).trans (by kernel_rfl)
theorem c27 {glob : Nat → Option (List AV)} {prim : Nat → Option (List AV → Heap → Out (AV × Heap))} (hp : prim 27 = none) (p0 : AV) (p1_0 : Int) (p1_1 : (List UInt8)) (p1_2 : Int) (p1_3 : Bool) (p1_4 : AV) (p1_5 : Int) (H : Heap) {r : Ans} (h : g27 (callW (X0 glob prim)) loopW p0 p1_0 p1_1 p1_2 p1_3 p1_4 p1_5 H = .ok r) : callW (X0 glob prim) 27 [p0, (.agg [(.int .i64 p1_0), (.str p1_1), (.int .u32 p1_2), (.bool p1_3), p1_4, (.int .i64 p1_5)])] H = .ok r := callW_of ((u27 hp ..).trans h)
/- crucible/ast.itself -/
noncomputable def g28 (Γ : CallsT) (lp : LoopT Ans) (p0_0 : Int) (p0_1 : (List UInt8)) (p0_2 : Int) (p0_3 : Bool) (p0_4 : AV) (p0_5 : Int) (H : Heap) : Out Ans :=
  jn (fun s1 =>
  onO (Locs.find s1.2.1 1) fun cs2 =>
  (M.ldc true 6 cs2 0).bind fun v3 =>
  (Γ 47 [v3] s1.2.2).bind fun r4 =>
  (guardEv (some (.val r4.1)) false
  (onO (Locs.find s1.2.1 1) fun cs5 =>
  (M.ldc false 1 cs5 0).bind fun v6 =>
  .ok (v6, r4.2))
  (.ok (undefA, r4.2))).bind fun q7 =>
  (guardEv (some (.val r4.1)) false
  ((M.bin Tryz.prog .eql 3 (.tmp 16) (.const (.int .i64 16)) q7.1 (.int .i64 16)).bind fun v8 =>
  .ok (v8, q7.2))
  (.ok (undefA, q7.2))).bind fun q9 =>
  (M.pick r4.1 (.bool true) q9.1).bind fun v10 =>
  condEv v10
  (onO (Locs.find s1.2.1 1) fun cs11 =>
  (M.ldc true 6 cs11 0).bind fun v12 =>
  (Γ 48 [v12] q9.2).bind fun r13 =>
  .ok (gc r13.1 H r13.2))
  (onO (Locs.find s1.2.1 1) fun cs14 =>
  (M.ldc true 6 cs14 0).bind fun v15 =>
  (Γ 49 [v15] q9.2).bind fun r16 =>
  condEv r16.1
  (onO (Locs.find s1.2.1 1) fun cs17 =>
  (M.ldc true 6 cs17 0).bind fun v18 =>
  (Γ 50 [v18] r16.2).bind fun r19 =>
  .ok (gc r19.1 H r19.2))
  (onO (Locs.find s1.2.1 1) fun cs20 =>
  (M.ldc true 6 cs20 0).bind fun v21 =>
  (Γ 51 [v21] r16.2).bind fun r22 =>
  .ok (gc r22.1 H r22.2)))) fun j23 =>
  condEv (.bool ((p0_0 == 1)))
  (condEv (.bool ((p0_0 == 1)))
  (j23 ([], [(1, [(.int .i64 p0_0), (.str p0_1), (.int .u32 p0_2), (.bool p0_3), p0_4, (.int .i64 p0_5)])], H.start))
  (condEv (.bool p0_3)
  (.ok (gc (.bool false) H H.start))
  (j23 ([], [(1, [(.int .i64 p0_0), (.str p0_1), (.int .u32 p0_2), (.bool p0_3), p0_4, (.int .i64 p0_5)])], H.start))))
  (condEv (.bool ((p0_0 == 43)))
  (condEv (.bool ((p0_0 == 43)))
  (j23 ([], [(1, [(.int .i64 p0_0), (.str p0_1), (.int .u32 p0_2), (.bool p0_3), p0_4, (.int .i64 p0_5)])], H.start))
  (condEv (.bool p0_3)
  (.ok (gc (.bool false) H H.start))
  (j23 ([], [(1, [(.int .i64 p0_0), (.str p0_1), (.int .u32 p0_2), (.bool p0_3), p0_4, (.int .i64 p0_5)])], H.start))))
  (condEv (.bool ((p0_0 == 46)))
  (j23 ([], [(1, [(.int .i64 p0_0), (.str p0_1), (.int .u32 p0_2), (.bool p0_3), p0_4, (.int .i64 p0_5)])], H.start))
  (condEv (.bool p0_3)
  (.ok (gc (.bool false) H H.start))
  (j23 ([], [(1, [(.int .i64 p0_0), (.str p0_1), (.int .u32 p0_2), (.bool p0_3), p0_4, (.int .i64 p0_5)])], H.start)))))
theorem u28 {glob : Nat → Option (List AV)} {prim : Nat → Option (List AV → Heap → Out (AV × Heap))} (hp : prim 28 = none) (Γ : CallsT) (lp : LoopT Ans) (p0_0 : Int) (p0_1 : (List UInt8)) (p0_2 : Int) (p0_3 : Bool) (p0_4 : AV) (p0_5 : Int) (H : Heap) : runF (X0 glob prim) lp Γ 28 [(.agg [(.int .i64 p0_0), (.str p0_1), (.int .u32 p0_2), (.bool p0_3), p0_4, (.int .i64 p0_5)])] H = g28 Γ lp p0_0 p0_1 p0_2 p0_3 p0_4 p0_5 H :=
  (runF_run hp (show trieF.get 28 = some Tryz.f28 by kernel_rfl) (by kernel_rfl) (by kernel_rfl)).trans (by kernel_rfl)
theorem c28 {glob : Nat → Option (List AV)} {prim : Nat → Option (List AV → Heap → Out (AV × Heap))} (hp : prim 28 = none) (p0_0 : Int) (p0_1 : (List UInt8)) (p0_2 : Int) (p0_3 : Bool) (p0_4 : AV) (p0_5 : Int) (H : Heap) {r : Ans} (h : g28 (callW (X0 glob prim)) loopW p0_0 p0_1 p0_2 p0_3 p0_4 p0_5 H = .ok r) : callW (X0 glob prim) 28 [(.agg [(.int .i64 p0_0), (.str p0_1), (.int .u32 p0_2), (.bool p0_3), p0_4, (.int .i64 p0_5)])] H = .ok r := callW_of ((u28 hp ..).trans h)
/- crucible/ast.every -/
noncomputable def g29 (Γ : CallsT) (lp : LoopT Ans) (p0 : AV) (p1 : AV) (H : Heap) : Out Ans :=
  (M.cellsT p1).bind fun cs1 =>
  let h2 : Heap := (H.start).alloc (.cells 30 cs1)
  (Γ 52 [p0, (.fn (.func 53) [] [(.ref (H.start).n 0)])] h2).bind fun r3 =>
  (M.un .not r3.1).bind fun v4 =>
  .ok (gc v4 H r3.2)
theorem u29 {glob : Nat → Option (List AV)} {prim : Nat → Option (List AV → Heap → Out (AV × Heap))} (hp : prim 29 = none) (Γ : CallsT) (lp : LoopT Ans) (p0 : AV) (p1 : AV) (H : Heap) : runF (X0 glob prim) lp Γ 29 [p0, p1] H = g29 Γ lp p0 p1 H :=
  (runF_run hp (show trieF.get 29 = some Tryz.f29 by kernel_rfl) (by kernel_rfl) (by kernel_rfl)).trans (by kernel_rfl)
theorem c29 {glob : Nat → Option (List AV)} {prim : Nat → Option (List AV → Heap → Out (AV × Heap))} (hp : prim 29 = none) (p0 : AV) (p1 : AV) (H : Heap) {r : Ans} (h : g29 (callW (X0 glob prim)) loopW p0 p1 H = .ok r) : callW (X0 glob prim) 29 [p0, p1] H = .ok r := callW_of ((u29 hp ..).trans h)
/- (*crucible/ast.printer).head -/
noncomputable def g30 (Γ : CallsT) (lp : LoopT Ans) (p0 : AV) (p1 : (List UInt8)) (p2_0 : Int) (p2_1 : (List UInt8)) (p2_2 : Int) (p2_3 : Bool) (p2_4 : AV) (p2_5 : Int) (p3 : (List UInt8)) (H : Heap) : Out Ans :=
  (Γ 31 [p0, (.isl 1 [(.str p1), (.str [32, 40])])] H.start).bind fun r1 =>
  (Γ 54 [p0, (.agg [(.int .i64 p2_0), (.str p2_1), (.int .u32 p2_2), (.bool p2_3), p2_4, (.int .i64 p2_5)]), (.int .i64 0)] r1.2).bind fun r2 =>
  (Γ 31 [p0, (.isl 1 [(.str [41]), (.str p3)])] r2.2).bind fun r3 =>
  .ok (gc (.tup []) H r3.2)
theorem u30 {glob : Nat → Option (List AV)} {prim : Nat → Option (List AV → Heap → Out (AV × Heap))} (hp : prim 30 = none) (Γ : CallsT) (lp : LoopT Ans) (p0 : AV) (p1 : (List UInt8)) (p2_0 : Int) (p2_1 : (List UInt8)) (p2_2 : Int) (p2_3 : Bool) (p2_4 : AV) (p2_5 : Int) (p3 : (List UInt8)) (H : Heap) : runF (X0 glob prim) lp Γ 30 [p0, (.str p1), (.agg [(.int .i64 p2_0), (.str p2_1), (.int .u32 p2_2), (.bool p2_3), p2_4, (.int .i64 p2_5)]), (.str p3)] H = g30 Γ lp p0 p1 p2_0 p2_1 p2_2 p2_3 p2_4 p2_5 p3 H :=
  (runF_run hp (show trieF.get 30 = some Tryz.f30 by kernel_rfl) (by kernel_rfl) (by kernel_rfl)).trans (by kernel_rfl)
theorem c30 {glob : Nat → Option (List AV)} {prim : Nat → Option (List AV → Heap → Out (AV × Heap))} (hp : prim 30 = none) (p0 : AV) (p1 : (List UInt8)) (p2_0 : Int) (p2_1 : (List UInt8)) (p2_2 : Int) (p2_3 : Bool) (p2_4 : AV) (p2_5 : Int) (p3 : (List UInt8)) (H : Heap) {r : Ans} (h : g30 (callW (X0 glob prim)) loopW p0 p1 p2_0 p2_1 p2_2 p2_3 p2_4 p2_5 p3 H = .ok r) : callW (X0 glob prim) 30 [p0, (.str p1), (.agg [(.int .i64 p2_0), (.str p2_1), (.int .u32 p2_2), (.bool p2_3), p2_4, (.int .i64 p2_5)]), (.str p3)] H = .ok r := callW_of ((u30 hp ..).trans h)
/- (*crucible/ast.printer).put -/
noncomputable def g31_l1 (Γ : CallsT) (lp : LoopT Ans) (H : Heap) : LS → (LS → Out Ans) → Out Ans := fun s2 a3 =>
  (M.bin Tryz.prog .lss 3 (.tmp 8) (.tmp 7) (s2.1.getD 3 undefA) (s2.1.getD 2 undefA)).bind fun v4 =>
  condEv v4
  ((M.indexSl 1 (s2.1.getD 1 undefA) (s2.1.getD 3 undefA)).bind fun v5 =>
  (M.load false 1 v5 s2.2.2).bind fun v6 =>
  (M.nilCheck (s2.1.getD 0 undefA)).bind fun v7 =>
  (M.fieldAddr 0 v7).bind fun v8 =>
  (M.load false 1 v8 s2.2.2).bind fun v9 =>
  (M.append 5 1 1 v9 v6 s2.2.2).bind fun r10 =>
  (M.nilCheck (s2.1.getD 0 undefA)).bind fun v11 =>
  (M.fieldAddr 0 v11).bind fun v12 =>
  (M.store 1 v12 r10.1 r10.2).bind fun h13 =>
  (M.bin Tryz.prog .add 3 (.tmp 8) (.const (.int .i64 1)) (s2.1.getD 3 undefA) (.int .i64 1)).bind fun v14 =>
  a3 ([(s2.1.getD 0 undefA), (s2.1.getD 1 undefA), (s2.1.getD 2 undefA), v14], s2.2.1, h13))
  (.ok (gc (.tup []) H s2.2.2))
noncomputable def g31 (Γ : CallsT) (lp : LoopT Ans) (p0 : AV) (p1 : AV) (H : Heap) : Out Ans :=
  (M.len false p1).bind fun v1 =>
  lp (g31_l1 Γ lp H) ([p0, p1, v1, (.int .i64 0)], [], H.start)
theorem u31 {glob : Nat → Option (List AV)} {prim : Nat → Option (List AV → Heap → Out (AV × Heap))} (hp : prim 31 = none) (Γ : CallsT) (lp : LoopT Ans) (p0 : AV) (p1 : AV) (H : Heap) : runF (X0 glob prim) lp Γ 31 [p0, p1] H = g31 Γ lp p0 p1 H :=
  (runF_run hp (show trieF.get 31 = some Tryz.f31 by kernel_rfl) (by kernel_rfl) (by kernel_rfl)).trans (by kernel_rfl)
theorem c31 {glob : Nat → Option (List AV)} {prim : Nat → Option (List AV → Heap → Out (AV × Heap))} (hp : prim 31 = none) (p0 : AV) (p1 : AV) (H : Heap) {r : Ans} (h : g31 (callW (X0 glob prim)) loopW p0 p1 H = .ok r) : callW (X0 glob prim) 31 [p0, p1] H = .ok r := callW_of ((u31 hp ..).trans h)
/- (*crucible/ast.printer).fors -/
noncomputable def g32_l3 (Γ : CallsT) (lp : LoopT Ans) (H : Heap) : LS → (LS → Out Ans) → Out Ans := fun s4 a5 =>
  (M.bin Tryz.prog .lss 3 (.tmp 13) (.tmp 12) (s4.1.getD 3 undefA) (s4.1.getD 2 undefA)).bind fun v6 =>
  condEv v6
  (jn (fun s7 =>
  (M.bin Tryz.prog .add 3 (.tmp 13) (.const (.int .i64 1)) (s7.1.getD 3 undefA) (.int .i64 1)).bind fun v8 =>
  a5 ([(s7.1.getD 0 undefA), (s7.1.getD 1 undefA), (s7.1.getD 2 undefA), v8], s7.2.1, s7.2.2)) fun j9 =>
  (M.indexSl 6 (s4.1.getD 1 undefA) (s4.1.getD 3 undefA)).bind fun v10 =>
  (M.load true 6 v10 s4.2.2).bind fun v11 =>
  onO (Locs.find (Locs.put s4.2.1 5 [(.int .i64 0), (.str []), (.int .u32 0), (.bool false), nilSlice, (.int .i64 0)]) 5) fun cs12 =>
  (M.stc 6 cs12 0 v11).bind fun cs13 =>
  jn (fun s14 =>
  onO (Locs.find s14.2.1 5) fun cs15 =>
  (M.ldc false 1 cs15 0).bind fun v16 =>
  (M.bin Tryz.prog .neq 3 (.tmp 24) (.const (.int .i64 56)) v16 (.int .i64 56)).bind fun v17 =>
  condEv v17
  (onO (Locs.find s14.2.1 5) fun cs18 =>
  (M.ldc true 6 cs18 0).bind fun v19 =>
  (Γ 54 [(s14.1.getD 0 undefA), v19, (.int .i64 0)] s14.2.2).bind fun r20 =>
  j9 ([(s14.1.getD 0 undefA), (s14.1.getD 1 undefA), (s14.1.getD 2 undefA), (s14.1.getD 3 undefA)], s14.2.1, r20.2))
  (j9 ([(s14.1.getD 0 undefA), (s14.1.getD 1 undefA), (s14.1.getD 2 undefA), (s14.1.getD 3 undefA)], s14.2.1, s14.2.2))) fun j21 =>
  (M.bin Tryz.prog .gtr 3 (.tmp 18) (.const (.int .i64 0)) (s4.1.getD 3 undefA) (.int .i64 0)).bind fun v22 =>
  condEv v22
  ((Γ 31 [(s4.1.getD 0 undefA), (.isl 1 [(.str [59, 32])])] s4.2.2).bind fun r23 =>
  j21 ([(s4.1.getD 0 undefA), (s4.1.getD 1 undefA), (s4.1.getD 2 undefA), (s4.1.getD 3 undefA)], (Locs.put (Locs.put s4.2.1 5 [(.int .i64 0), (.str []), (.int .u32 0), (.bool false), nilSlice, (.int .i64 0)]) 5 cs13), r23.2))
  (j21 ([(s4.1.getD 0 undefA), (s4.1.getD 1 undefA), (s4.1.getD 2 undefA), (s4.1.getD 3 undefA)], (Locs.put (Locs.put s4.2.1 5 [(.int .i64 0), (.str []), (.int .u32 0), (.bool false), nilSlice, (.int .i64 0)]) 5 cs13), s4.2.2)))
  ((Γ 31 [(s4.1.getD 0 undefA), (.isl 1 [(.str [41, 10])])] s4.2.2).bind fun r24 =>
  onO (Locs.find s4.2.1 3) fun cs25 =>
  (M.ldc false 1 cs25 4).bind fun v26 =>
  (M.indexSl 6 v26 (.int .i64 3)).bind fun v27 =>
  (M.load true 6 v27 r24.2).bind fun v28 =>
  (Γ 22 [(s4.1.getD 0 undefA), v28] r24.2).bind fun r29 =>
  .ok (gc (.tup []) H r29.2))
noncomputable def g32 (Γ : CallsT) (lp : LoopT Ans) (p0 : AV) (p1_0 : Int) (p1_1 : (List UInt8)) (p1_2 : Int) (p1_3 : Bool) (p1_4 : AV) (p1_5 : Int) (H : Heap) : Out Ans :=
  (Γ 31 [p0, (.isl 1 [(.str [102, 111, 114, 32, 40])])] H.start).bind fun r1 =>
  (M.sliceSl 6 p1_4 none (some (.int .i64 3))).bind fun v2 =>
  (M.len false v2).bind fun v3 =>
  lp (g32_l3 Γ lp H) ([p0, v2, v3, (.int .i64 0)], [(3, [(.int .i64 p1_0), (.str p1_1), (.int .u32 p1_2), (.bool p1_3), p1_4, (.int .i64 p1_5)])], r1.2)
theorem u32 {glob : Nat → Option (List AV)} {prim : Nat → Option (List AV → Heap → Out (AV × Heap))} (hp : prim 32 = none) (Γ : CallsT) (lp : LoopT Ans) (p0 : AV) (p1_0 : Int) (p1_1 : (List UInt8)) (p1_2 : Int) (p1_3 : Bool) (p1_4 : AV) (p1_5 : Int) (H : Heap) : runF (X0 glob prim) lp Γ 32 [p0, (.agg [(.int .i64 p1_0), (.str p1_1), (.int .u32 p1_2), (.bool p1_3), p1_4, (.int .i64 p1_5)])] H = g32 Γ lp p0 p1_0 p1_1 p1_2 p1_3 p1_4 p1_5 H :=
  (runF_run hp (show trieF.get 32 = some Tryz.f32 by kernel_rfl) (by kernel_rfl) (by kernel_rfl)).trans (by kernel_rfl)
theorem c32 {glob : Nat → Option (List AV)} {prim : Nat → Option (List AV → Heap → Out (AV × Heap))} (hp : prim 32 = none) (p0 : AV) (p1_0 : Int) (p1_1 : (List UInt8)) (p1_2 : Int) (p1_3 : Bool) (p1_4 : AV) (p1_5 : Int) (H : Heap) {r : Ans} (h : g32 (callW (X0 glob prim)) loopW p0 p1_0 p1_1 p1_2 p1_3 p1_4 p1_5 H = .ok r) : callW (X0 glob prim) 32 [p0, (.agg [(.int .i64 p1_0), (.str p1_1), (.int .u32 p1_2), (.bool p1_3), p1_4, (.int .i64 p1_5)])] H = .ok r := callW_of ((u32 hp ..).trans h)
/- (*crucible/ast.printer).block -/
noncomputable def g33 (Γ : CallsT) (lp : LoopT Ans) (p0 : AV) (p1 : AV) (H : Heap) : Out Ans :=
  (Γ 31 [p0, (.isl 1 [(.str [123, 10])])] H.start).bind fun r1 =>
  (Γ 14 [p0, p1] r1.2).bind fun r2 =>
  (Γ 31 [p0, (.isl 1 [(.str [125])])] r2.2).bind fun r3 =>
  .ok (gc (.tup []) H r3.2)
theorem u33 {glob : Nat → Option (List AV)} {prim : Nat → Option (List AV → Heap → Out (AV × Heap))} (hp : prim 33 = none) (Γ : CallsT) (lp : LoopT Ans) (p0 : AV) (p1 : AV) (H : Heap) : runF (X0 glob prim) lp Γ 33 [p0, p1] H = g33 Γ lp p0 p1 H :=
  (runF_run hp (show trieF.get 33 = some Tryz.f33 by kernel_rfl) (by kernel_rfl) (by kernel_rfl)).trans (by kernel_rfl)
theorem c33 {glob : Nat → Option (List AV)} {prim : Nat → Option (List AV → Heap → Out (AV × Heap))} (hp : prim 33 = none) (p0 : AV) (p1 : AV) (H : Heap) {r : Ans} (h : g33 (callW (X0 glob prim)) loopW p0 p1 H = .ok r) : callW (X0 glob prim) 33 [p0, p1] H = .ok r := callW_of ((u33 hp ..).trans h)
/- (*crucible/ast.printer).variable -/
noncomputable def g34 (Γ : CallsT) (lp : LoopT Ans) (p0 : AV) (p1_0 : Int) (p1_1 : (List UInt8)) (p1_2 : Int) (p1_3 : Bool) (p1_4 : AV) (p1_5 : Int) (H : Heap) : Out Ans :=
  (Γ 31 [p0, (.isl 1 [(.str p1_1)])] H.start).bind fun r1 =>
  jn (fun s2 =>
  (M.len false (s2.1.getD 1 undefA)).bind fun v3 =>
  (M.bin Tryz.prog .eql 3 (.tmp 33) (.const (.int .i64 0)) v3 (.int .i64 0)).bind fun v4 =>
  condEv v4
  (.ok (gc (.tup []) H s2.2.2))
  ((Γ 31 [(s2.1.getD 0 undefA), (.isl 1 [(.str [32, 61, 32])])] s2.2.2).bind fun r5 =>
  (M.indexSl 6 (s2.1.getD 1 undefA) (.int .i64 0)).bind fun v6 =>
  (M.fieldAddr 0 v6).bind fun v7 =>
  (M.load false 1 v7 r5.2).bind fun v8 =>
  (M.bin Tryz.prog .eql 3 (.tmp 41) (.const (.int .i64 44)) v8 (.int .i64 44)).bind fun v9 =>
  condEv v9
  ((Γ 31 [(s2.1.getD 0 undefA), (.isl 1 [(.str [123])])] r5.2).bind fun r10 =>
  (M.indexSl 6 (s2.1.getD 1 undefA) (.int .i64 0)).bind fun v11 =>
  (M.fieldAddr 4 v11).bind fun v12 =>
  (M.load false 1 v12 r10.2).bind fun v13 =>
  (Γ 55 [(s2.1.getD 0 undefA), v13] r10.2).bind fun r14 =>
  (Γ 31 [(s2.1.getD 0 undefA), (.isl 1 [(.str [125])])] r14.2).bind fun r15 =>
  .ok (gc (.tup []) H r15.2))
  ((M.indexSl 6 (s2.1.getD 1 undefA) (.int .i64 0)).bind fun v16 =>
  (M.load true 6 v16 r5.2).bind fun v17 =>
  (Γ 54 [(s2.1.getD 0 undefA), v17, (.int .i64 0)] r5.2).bind fun r18 =>
  .ok (gc (.tup []) H r18.2)))) fun j19 =>
  condEv (.bool p1_3)
  ((Γ 31 [p0, (.isl 1 [(.str [91])])] r1.2).bind fun r20 =>
  jn (fun s21 =>
  (Γ 31 [(s21.1.getD 0 undefA), (.isl 1 [(.str [93])])] s21.2.2).bind fun r22 =>
  (M.sliceSl 6 (s21.1.getD 1 undefA) (some (.int .i64 1)) none).bind fun v23 =>
  j19 ([(s21.1.getD 0 undefA), v23], s21.2.1, r22.2)) fun j24 =>
  (M.indexSl 6 p1_4 (.int .i64 0)).bind fun v25 =>
  (M.fieldAddr 0 v25).bind fun v26 =>
  (M.load false 1 v26 r20.2).bind fun v27 =>
  (M.bin Tryz.prog .neq 3 (.tmp 20) (.const (.int .i64 56)) v27 (.int .i64 56)).bind fun v28 =>
  condEv v28
  ((M.indexSl 6 p1_4 (.int .i64 0)).bind fun v29 =>
  (M.load true 6 v29 r20.2).bind fun v30 =>
  (Γ 54 [p0, v30, (.int .i64 0)] r20.2).bind fun r31 =>
  j24 ([p0, p1_4], [(3, [(.int .i64 p1_0), (.str p1_1), (.int .u32 p1_2), (.bool p1_3), p1_4, (.int .i64 p1_5)])], r31.2))
  (j24 ([p0, p1_4], [(3, [(.int .i64 p1_0), (.str p1_1), (.int .u32 p1_2), (.bool p1_3), p1_4, (.int .i64 p1_5)])], r20.2)))
  (j19 ([p0, p1_4], [(3, [(.int .i64 p1_0), (.str p1_1), (.int .u32 p1_2), (.bool p1_3), p1_4, (.int .i64 p1_5)])], r1.2))
theorem u34 {glob : Nat → Option (List AV)} {prim : Nat → Option (List AV → Heap → Out (AV × Heap))} (hp : prim 34 = none) (Γ : CallsT) (lp : LoopT Ans) (p0 : AV) (p1_0 : Int) (p1_1 : (List UInt8)) (p1_2 : Int) (p1_3 : Bool) (p1_4 : AV) (p1_5 : Int) (H : Heap) : runF (X0 glob prim) lp Γ 34 [p0, (.agg [(.int .i64 p1_0), (.str p1_1), (.int .u32 p1_2), (.bool p1_3), p1_4, (.int .i64 p1_5)])] H = g34 Γ lp p0 p1_0 p1_1 p1_2 p1_3 p1_4 p1_5 H :=
  (runF_run hp (show trieF.get 34 = some Tryz.f34 by kernel_rfl) (by kernel_rfl) (by kernel_rfl)).trans (by kernel_rfl)
theorem c34 {glob : Nat → Option (List AV)} {prim : Nat → Option (List AV → Heap → Out (AV × Heap))} (hp : prim 34 = none) (p0 : AV) (p1_0 : Int) (p1_1 : (List UInt8)) (p1_2 : Int) (p1_3 : Bool) (p1_4 : AV) (p1_5 : Int) (H : Heap) {r : Ans} (h : g34 (callW (X0 glob prim)) loopW p0 p1_0 p1_1 p1_2 p1_3 p1_4 p1_5 H = .ok r) : callW (X0 glob prim) 34 [p0, (.agg [(.int .i64 p1_0), (.str p1_1), (.int .u32 p1_2), (.bool p1_3), p1_4, (.int .i64 p1_5)])] H = .ok r := callW_of ((u34 hp ..).trans h)
/- (*crucible/ast.printer).function -/
noncomputable def g35_l4 (Γ : CallsT) (lp : LoopT Ans) (H : Heap) : LS → (LS → Out Ans) → Out Ans := fun s10 a11 =>
  (M.bin Tryz.prog .lss 3 (.tmp 26) (.tmp 25) (s10.1.getD 4 undefA) (s10.1.getD 3 undefA)).bind fun v12 =>
  condEv v12
  (jn (fun s13 =>
  (M.bin Tryz.prog .add 3 (.tmp 26) (.const (.int .i64 1)) (s13.1.getD 4 undefA) (.int .i64 1)).bind fun v14 =>
  a11 ([(s13.1.getD 0 undefA), (s13.1.getD 1 undefA), (s13.1.getD 2 undefA), (s13.1.getD 3 undefA), v14], s13.2.1, s13.2.2)) fun j15 =>
  (M.indexSl 6 (s10.1.getD 2 undefA) (s10.1.getD 4 undefA)).bind fun v16 =>
  (M.load true 6 v16 s10.2.2).bind fun v17 =>
  onO (Locs.find (Locs.put s10.2.1 6 [(.int .i64 0), (.str []), (.int .u32 0), (.bool false), nilSlice, (.int .i64 0)]) 6) fun cs18 =>
  (M.stc 6 cs18 0 v17).bind fun cs19 =>
  jn (fun s20 =>
  onO (Locs.find s20.2.1 6) fun cs21 =>
  (M.ldc false 1 cs21 4).bind fun v22 =>
  (M.indexSl 6 v22 (.int .i64 0)).bind fun v23 =>
  (M.fieldAddr 1 v23).bind fun v24 =>
  (M.load false 1 v24 s20.2.2).bind fun v25 =>
  onO (Locs.find s20.2.1 6) fun cs26 =>
  (M.ldc false 1 cs26 2).bind fun v27 =>
  (M.conv Tryz.prog 22 3 (.int .u32) (.int .i64) v27).bind fun v28 =>
  (Γ 56 [(.str [42]), v28] (s20.2.2).start).bind fun r29 =>
  if r29.2.n = (s20.2.2).n ∧ r29.2.low = (s20.2.2).n then
  onO (Locs.find s20.2.1 6) fun cs30 =>
  (M.ldc false 1 cs30 1).bind fun v31 =>
  (M.fill (fun i => some (i * 1, 1)) [(.str []), (.str []), (.str []), (.str [])] [(0, v25), (1, (.str [32])), (2, r29.1), (3, v31)]).bind fun cs32 =>
  (Γ 31 [(s20.1.getD 0 undefA), (.isl 1 (chunks false 1 4 cs32))] s20.2.2).bind fun r33 =>
  onO (Locs.find s20.2.1 6) fun cs34 =>
  (M.ldc false 1 cs34 3).bind fun v35 =>
  condEv v35
  ((Γ 31 [(s20.1.getD 0 undefA), (.isl 1 [(.str [91, 93])])] r33.2).bind fun r36 =>
  j15 ([(s20.1.getD 0 undefA), (s20.1.getD 1 undefA), (s20.1.getD 2 undefA), (s20.1.getD 3 undefA), (s20.1.getD 4 undefA)], s20.2.1, r36.2))
  (j15 ([(s20.1.getD 0 undefA), (s20.1.getD 1 undefA), (s20.1.getD 2 undefA), (s20.1.getD 3 undefA), (s20.1.getD 4 undefA)], s20.2.1, r33.2))
  else .no) fun j37 =>
  (M.bin Tryz.prog .gtr 3 (.tmp 31) (.const (.int .i64 0)) (s10.1.getD 4 undefA) (.int .i64 0)).bind fun v38 =>
  condEv v38
  ((Γ 31 [(s10.1.getD 0 undefA), (.isl 1 [(.str [44, 32])])] s10.2.2).bind fun r39 =>
  j37 ([(s10.1.getD 0 undefA), (s10.1.getD 1 undefA), (s10.1.getD 2 undefA), (s10.1.getD 3 undefA), (s10.1.getD 4 undefA)], (Locs.put (Locs.put s10.2.1 6 [(.int .i64 0), (.str []), (.int .u32 0), (.bool false), nilSlice, (.int .i64 0)]) 6 cs19), r39.2))
  (j37 ([(s10.1.getD 0 undefA), (s10.1.getD 1 undefA), (s10.1.getD 2 undefA), (s10.1.getD 3 undefA), (s10.1.getD 4 undefA)], (Locs.put (Locs.put s10.2.1 6 [(.int .i64 0), (.str []), (.int .u32 0), (.bool false), nilSlice, (.int .i64 0)]) 6 cs19), s10.2.2)))
  ((Γ 31 [(s10.1.getD 0 undefA), (.isl 1 [(.str [41, 32])])] s10.2.2).bind fun r40 =>
  onO (Locs.find s10.2.1 3) fun cs41 =>
  (M.ldc false 1 cs41 4).bind fun v42 =>
  (M.indexSl 6 v42 (s10.1.getD 1 undefA)).bind fun v43 =>
  (M.fieldAddr 4 v43).bind fun v44 =>
  (M.load false 1 v44 r40.2).bind fun v45 =>
  (Γ 33 [(s10.1.getD 0 undefA), v45] r40.2).bind fun r46 =>
  .ok (gc (.tup []) H r46.2))
noncomputable def g35 (Γ : CallsT) (lp : LoopT Ans) (p0 : AV) (p1_0 : Int) (p1_1 : (List UInt8)) (p1_2 : Int) (p1_3 : Bool) (p1_4 : AV) (p1_5 : Int) (H : Heap) : Out Ans :=
  (M.len false p1_4).bind fun v1 =>
  (M.bin Tryz.prog .sub 3 (.tmp 9) (.const (.int .i64 1)) v1 (.int .i64 1)).bind fun v2 =>
  (M.indexSl 6 p1_4 (.int .i64 0)).bind fun v3 =>
  (M.fieldAddr 1 v3).bind fun v4 =>
  (M.load false 1 v4 H.start).bind fun v5 =>
  (M.fill (fun i => some (i * 1, 1)) [(.str []), (.str []), (.str []), (.str [])] [(0, v5), (1, (.str [32])), (2, (.str p1_1)), (3, (.str [40]))]).bind fun cs6 =>
  (Γ 31 [p0, (.isl 1 (chunks false 1 4 cs6))] H.start).bind fun r7 =>
  (M.sliceSl 6 p1_4 (some (.int .i64 1)) (some v2)).bind fun v8 =>
  (M.len false v8).bind fun v9 =>
  lp (g35_l4 Γ lp H) ([p0, v2, v8, v9, (.int .i64 0)], [(3, [(.int .i64 p1_0), (.str p1_1), (.int .u32 p1_2), (.bool p1_3), p1_4, (.int .i64 p1_5)])], r7.2)
theorem u35 {glob : Nat → Option (List AV)} {prim : Nat → Option (List AV → Heap → Out (AV × Heap))} (hp : prim 35 = none) (Γ : CallsT) (lp : LoopT Ans) (p0 : AV) (p1_0 : Int) (p1_1 : (List UInt8)) (p1_2 : Int) (p1_3 : Bool) (p1_4 : AV) (p1_5 : Int) (H : Heap) : runF (X0 glob prim) lp Γ 35 [p0, (.agg [(.int .i64 p1_0), (.str p1_1), (.int .u32 p1_2), (.bool p1_3), p1_4, (.int .i64 p1_5)])] H = g35 Γ lp p0 p1_0 p1_1 p1_2 p1_3 p1_4 p1_5 H :=
  (runF_run hp (show trieF.get 35 = some Tryz.f35 by kernel_rfl) (by kernel_rfl) (by kernel_rfl)).trans (by kernel_rfl)
theorem c35 {glob : Nat → Option (List AV)} {prim : Nat → Option (List AV → Heap → Out (AV × Heap))} (hp : prim 35 = none) (p0 : AV) (p1_0 : Int) (p1_1 : (List UInt8)) (p1_2 : Int) (p1_3 : Bool) (p1_4 : AV) (p1_5 : Int) (H : Heap) {r : Ans} (h : g35 (callW (X0 glob prim)) loopW p0 p1_0 p1_1 p1_2 p1_3 p1_4 p1_5 H = .ok r) : callW (X0 glob prim) 35 [p0, (.agg [(.int .i64 p1_0), (.str p1_1), (.int .u32 p1_2), (.bool p1_3), p1_4, (.int .i64 p1_5)])] H = .ok r := callW_of ((u35 hp ..).trans h)
/- (*crucible/ast.printer).short -/
noncomputable def g36 (Γ : CallsT) (lp : LoopT Ans) (p0 : AV) (p1_0 : Int) (p1_1 : (List UInt8)) (p1_2 : Int) (p1_3 : Bool) (p1_4 : AV) (p1_5 : Int) (H : Heap) : Out Ans :=
  jn (fun s1 =>
  (Γ 31 [(s1.1.getD 0 undefA), (.isl 1 [(.str [59])])] s1.2.2).bind fun r2 =>
  .ok (gc (.tup []) H r2.2)) fun j3 =>
  condEv (.bool ((p1_0 == 48)))
  ((M.indexSl 6 p1_4 (.int .i64 0)).bind fun v4 =>
  (M.load true 6 v4 H.start).bind fun v5 =>
  (Γ 54 [p0, v5, (.int .i64 0)] H.start).bind fun r6 =>
  j3 ([p0], [(3, [(.int .i64 p1_0), (.str p1_1), (.int .u32 p1_2), (.bool p1_3), p1_4, (.int .i64 p1_5)])], r6.2))
  (condEv (.bool ((p1_0 == 53)))
  ((Γ 31 [p0, (.isl 1 [(.str [98, 114, 101, 97, 107])])] H.start).bind fun r7 =>
  j3 ([p0], [(3, [(.int .i64 p1_0), (.str p1_1), (.int .u32 p1_2), (.bool p1_3), p1_4, (.int .i64 p1_5)])], r7.2))
  (condEv (.bool ((p1_0 == 54)))
  ((Γ 31 [p0, (.isl 1 [(.str [99, 111, 110, 116, 105, 110, 117, 101])])] H.start).bind fun r8 =>
  j3 ([p0], [(3, [(.int .i64 p1_0), (.str p1_1), (.int .u32 p1_2), (.bool p1_3), p1_4, (.int .i64 p1_5)])], r8.2))
  (condEv (.bool ((p1_0 == 55)))
  ((Γ 31 [p0, (.isl 1 [(.str [114, 101, 116, 117, 114, 110])])] H.start).bind fun r9 =>
  (M.len false p1_4).bind fun v10 =>
  (M.bin Tryz.prog .gtr 3 (.tmp 31) (.const (.int .i64 0)) v10 (.int .i64 0)).bind fun v11 =>
  condEv v11
  ((Γ 31 [p0, (.isl 1 [(.str [32])])] r9.2).bind fun r12 =>
  (M.indexSl 6 p1_4 (.int .i64 0)).bind fun v13 =>
  (M.load true 6 v13 r12.2).bind fun v14 =>
  (Γ 54 [p0, v14, (.int .i64 0)] r12.2).bind fun r15 =>
  j3 ([p0], [(3, [(.int .i64 p1_0), (.str p1_1), (.int .u32 p1_2), (.bool p1_3), p1_4, (.int .i64 p1_5)])], r15.2))
  (j3 ([p0], [(3, [(.int .i64 p1_0), (.str p1_1), (.int .u32 p1_2), (.bool p1_3), p1_4, (.int .i64 p1_5)])], r9.2)))
  (j3 ([p0], [(3, [(.int .i64 p1_0), (.str p1_1), (.int .u32 p1_2), (.bool p1_3), p1_4, (.int .i64 p1_5)])], H.start)))))
theorem u36 {glob : Nat → Option (List AV)} {prim : Nat → Option (List AV → Heap → Out (AV × Heap))} (hp : prim 36 = none) (Γ : CallsT) (lp : LoopT Ans) (p0 : AV) (p1_0 : Int) (p1_1 : (List UInt8)) (p1_2 : Int) (p1_3 : Bool) (p1_4 : AV) (p1_5 : Int) (H : Heap) : runF (X0 glob prim) lp Γ 36 [p0, (.agg [(.int .i64 p1_0), (.str p1_1), (.int .u32 p1_2), (.bool p1_3), p1_4, (.int .i64 p1_5)])] H = g36 Γ lp p0 p1_0 p1_1 p1_2 p1_3 p1_4 p1_5 H :=
  (runF_run hp (show trieF.get 36 = some Tryz.f36 by kernel_rfl) (by kernel_rfl) (by kernel_rfl)).trans (by kernel_rfl)
theorem c36 {glob : Nat → Option (List AV)} {prim : Nat → Option (List AV → Heap → Out (AV × Heap))} (hp : prim 36 = none) (p0 : AV) (p1_0 : Int) (p1_1 : (List UInt8)) (p1_2 : Int) (p1_3 : Bool) (p1_4 : AV) (p1_5 : Int) (H : Heap) {r : Ans} (h : g36 (callW (X0 glob prim)) loopW p0 p1_0 p1_1 p1_2 p1_3 p1_4 p1_5 H = .ok r) : callW (X0 glob prim) 36 [p0, (.agg [(.int .i64 p1_0), (.str p1_1), (.int .u32 p1_2), (.bool p1_3), p1_4, (.int .i64 p1_5)])] H = .ok r := callW_of ((u36 hp ..).trans h)
/- crucible/crucibleref08.name -/
noncomputable def g37 (Γ : CallsT) (lp : LoopT Ans) (p0 : (List UInt8)) (H : Heap) : Out Ans :=
  (Γ 57 [(.str p0)] H.start).bind fun r1 =>
  (guardEv (some (.val r1.1)) true
  (.ok ((.str p0), r1.2))
  (.ok (undefA, r1.2))).bind fun q2 =>
  (guardEv (some (.val r1.1)) true
  ((Γ 58 [q2.1] q2.2).bind fun r3 =>
  .ok (r3.1, r3.2))
  (.ok (undefA, q2.2))).bind fun q4 =>
  (guardEv (some (.val r1.1)) true
  ((M.un .not q4.1).bind fun v5 =>
  .ok (v5, q4.2))
  (.ok (undefA, q4.2))).bind fun q6 =>
  (M.pick r1.1 q6.1 (.bool false)).bind fun v7 =>
  .ok (gc v7 H q6.2)
theorem u37 {glob : Nat → Option (List AV)} {prim : Nat → Option (List AV → Heap → Out (AV × Heap))} (hp : prim 37 = none) (Γ : CallsT) (lp : LoopT Ans) (p0 : (List UInt8)) (H : Heap) : runF (X0 glob prim) lp Γ 37 [(.str p0)] H = g37 Γ lp p0 H :=
  (runF_run hp (show trieF.get 37 = some Tryz.f37 by kernel_rfl) (by kernel_rfl) (by kernel_rfl)).trans (by kernel_rfl)
theorem c37 {glob : Nat → Option (List AV)} {prim : Nat → Option (List AV → Heap → Out (AV × Heap))} (hp : prim 37 = none) (p0 : (List UInt8)) (H : Heap) {r : Ans} (h : g37 (callW (X0 glob prim)) loopW p0 H = .ok r) : callW (X0 glob prim) 37 [(.str p0)] H = .ok r := callW_of ((u37 hp ..).trans h)
/- crucible/crucibleref08.typed -/
noncomputable def g38 (Γ : CallsT) (lp : LoopT Ans) (p0_0 : Int) (p0_1 : (List UInt8)) (p0_2 : Int) (p0_3 : Bool) (p0_4 : AV) (p0_5 : Int) (H : Heap) : Out Ans :=
  (guardEv (some (.val (.bool ((p0_0 != 16))))) false
  (.ok ((.agg [(.int .i64 p0_0), (.str p0_1), (.int .u32 p0_2), (.bool p0_3), p0_4, (.int .i64 p0_5)]), H.start))
  (.ok (undefA, H.start))).bind fun q1 =>
  (guardEv (some (.val (.bool ((p0_0 != 16))))) false
  ((Γ 23 [q1.1, (.bool true), (.bool false), (.bool false)] q1.2).bind fun r2 =>
  .ok (r2.1, r2.2))
  (.ok (undefA, q1.2))).bind fun q3 =>
  (guardEv (some (.val (.bool ((p0_0 != 16))))) false
  ((M.un .not q3.1).bind fun v4 =>
  .ok (v4, q3.2))
  (.ok (undefA, q3.2))).bind fun q5 =>
  (M.pick (.bool ((p0_0 != 16))) (.bool true) q5.1).bind fun v6 =>
  (guardEv (some (.val v6)) false
  (.ok (p0_4, q5.2))
  (.ok (undefA, q5.2))).bind fun q7 =>
  (guardEv (some (.val v6)) false
  ((M.len false q7.1).bind fun v8 =>
  .ok (v8, q7.2))
  (.ok (undefA, q7.2))).bind fun q9 =>
  (guardEv (some (.val v6)) false
  ((M.bin Tryz.prog .gtr 3 (.tmp 14) (.const (.int .i64 0)) q9.1 (.int .i64 0)).bind fun v10 =>
  .ok (v10, q9.2))
  (.ok (undefA, q9.2))).bind fun q11 =>
  (M.pick v6 (.bool true) q11.1).bind fun v12 =>
  condEv v12
  (.ok (gc (.bool false) H q11.2))
  ((guardEv (some (.val (.bool (decide ((p0_1.length : Int) > 7))))) true
  (.ok ((.str p0_1), q11.2))
  (.ok (undefA, q11.2))).bind fun q13 =>
  (guardEv (some (.val (.bool (decide ((p0_1.length : Int) > 7))))) true
  ((M.sliceStr q13.1 none (some (.int .i64 7))).bind fun v14 =>
  .ok (v14, q13.2))
  (.ok (undefA, q13.2))).bind fun q15 =>
  (guardEv (some (.val (.bool (decide ((p0_1.length : Int) > 7))))) true
  ((M.bin Tryz.prog .eql 9 (.tmp 24) (.const (.string ⟨⟨[115, 116, 114, 117, 99, 116, 32]⟩⟩)) q15.1 (.str [115, 116, 114, 117, 99, 116, 32])).bind fun v16 =>
  .ok (v16, q15.2))
  (.ok (undefA, q15.2))).bind fun q17 =>
  (M.pick (.bool (decide ((p0_1.length : Int) > 7))) q17.1 (.bool false)).bind fun v18 =>
  condEv v18
  ((M.sliceStr (.str p0_1) (some (.int .i64 7)) none).bind fun v19 =>
  (Γ 37 [v19] q17.2).bind fun r20 =>
  .ok (gc r20.1 H r20.2))
  ((guardEv (some (.val (.bool (p0_1 == [105, 110, 116])))) false
  (.ok ((.str p0_1), q17.2))
  (.ok (undefA, q17.2))).bind fun q21 =>
  (guardEv (some (.val (.bool (p0_1 == [105, 110, 116])))) false
  ((M.bin Tryz.prog .eql 9 (.tmp 36) (.const (.string ⟨⟨[117, 105, 110, 116]⟩⟩)) q21.1 (.str [117, 105, 110, 116])).bind fun v22 =>
  .ok (v22, q21.2))
  (.ok (undefA, q21.2))).bind fun q23 =>
  (M.pick (.bool (p0_1 == [105, 110, 116])) (.bool true) q23.1).bind fun v24 =>
  (guardEv (some (.val v24)) false
  (.ok ((.str p0_1), q23.2))
  (.ok (undefA, q23.2))).bind fun q25 =>
  (guardEv (some (.val v24)) false
  ((M.bin Tryz.prog .eql 9 (.tmp 41) (.const (.string ⟨⟨[99, 104, 97, 114]⟩⟩)) q25.1 (.str [99, 104, 97, 114])).bind fun v26 =>
  .ok (v26, q25.2))
  (.ok (undefA, q25.2))).bind fun q27 =>
  (M.pick v24 (.bool true) q27.1).bind fun v28 =>
  (guardEv (some (.val v28)) false
  (.ok ((.str p0_1), q27.2))
  (.ok (undefA, q27.2))).bind fun q29 =>
  (guardEv (some (.val v28)) false
  ((M.bin Tryz.prog .eql 9 (.tmp 46) (.const (.string ⟨⟨[118, 111, 105, 100]⟩⟩)) q29.1 (.str [118, 111, 105, 100])).bind fun v30 =>
  .ok (v30, q29.2))
  (.ok (undefA, q29.2))).bind fun q31 =>
  (M.pick v28 (.bool true) q31.1).bind fun v32 =>
  .ok (gc v32 H q31.2)))
theorem u38 {glob : Nat → Option (List AV)} {prim : Nat → Option (List AV → Heap → Out (AV × Heap))} (hp : prim 38 = none) (Γ : CallsT) (lp : LoopT Ans) (p0_0 : Int) (p0_1 : (List UInt8)) (p0_2 : Int) (p0_3 : Bool) (p0_4 : AV) (p0_5 : Int) (H : Heap) : runF (X0 glob prim) lp Γ 38 [(.agg [(.int .i64 p0_0), (.str p0_1), (.int .u32 p0_2), (.bool p0_3), p0_4, (.int .i64 p0_5)])] H = g38 Γ lp p0_0 p0_1 p0_2 p0_3 p0_4 p0_5 H :=
  (runF_run hp (show trieF.get 38 = some Tryz.f38 by kernel_rfl) (by kernel_rfl) (by kernel_rfl)).trans (by kernel_rfl)
theorem c38 {glob : Nat → Option (List AV)} {prim : Nat → Option (List AV → Heap → Out (AV × Heap))} (hp : prim 38 = none) (p0_0 : Int) (p0_1 : (List UInt8)) (p0_2 : Int) (p0_3 : Bool) (p0_4 : AV) (p0_5 : Int) (H : Heap) {r : Ans} (h : g38 (callW (X0 glob prim)) loopW p0_0 p0_1 p0_2 p0_3 p0_4 p0_5 H = .ok r) : callW (X0 glob prim) 38 [(.agg [(.int .i64 p0_0), (.str p0_1), (.int .u32 p0_2), (.bool p0_3), p0_4, (.int .i64 p0_5)])] H = .ok r := callW_of ((u38 hp ..).trans h)
/- crucible/crucibleref08.variable -/
noncomputable def g39 (Γ : CallsT) (lp : LoopT Ans) (p0_0 : Int) (p0_1 : (List UInt8)) (p0_2 : Int) (p0_3 : Bool) (p0_4 : AV) (p0_5 : Int) (p1 : Bool) (H : Heap) : Out Ans :=
  (guardEv (some (.val (.bool ((p0_0 != 43))))) false
  (.ok ((.agg [(.int .i64 p0_0), (.str p0_1), (.int .u32 p0_2), (.bool p0_3), p0_4, (.int .i64 p0_5)]), H.start))
  (.ok (undefA, H.start))).bind fun q1 =>
  (guardEv (some (.val (.bool ((p0_0 != 43))))) false
  ((Γ 23 [q1.1, (.bool true), (.bool false), (.bool true)] q1.2).bind fun r2 =>
  .ok (r2.1, r2.2))
  (.ok (undefA, q1.2))).bind fun q3 =>
  (guardEv (some (.val (.bool ((p0_0 != 43))))) false
  ((M.un .not q3.1).bind fun v4 =>
  .ok (v4, q3.2))
  (.ok (undefA, q3.2))).bind fun q5 =>
  (M.pick (.bool ((p0_0 != 43))) (.bool true) q5.1).bind fun v6 =>
  (guardEv (some (.val v6)) false
  (.ok ((.str p0_1), q5.2))
  (.ok (undefA, q5.2))).bind fun q7 =>
  (guardEv (some (.val v6)) false
  ((Γ 37 [q7.1] q7.2).bind fun r8 =>
  .ok (r8.1, r8.2))
  (.ok (undefA, q7.2))).bind fun q9 =>
  (guardEv (some (.val v6)) false
  ((M.un .not q9.1).bind fun v10 =>
  .ok (v10, q9.2))
  (.ok (undefA, q9.2))).bind fun q11 =>
  (M.pick v6 (.bool true) q11.1).bind fun v12 =>
  condEv v12
  (.ok (gc (.bool false) H q11.2))
  (jn (fun s13 =>
  (M.len false (s13.1.getD 1 undefA)).bind fun v14 =>
  (M.bin Tryz.prog .eql 3 (.tmp 45) (.const (.int .i64 0)) v14 (.int .i64 0)).bind fun v15 =>
  condEv v15
  (.ok (gc (.bool true) H s13.2.2))
  ((guardEv (some (.val (s13.1.getD 0 undefA))) false
  (.ok ((s13.1.getD 1 undefA), s13.2.2))
  (.ok (undefA, s13.2.2))).bind fun q16 =>
  (guardEv (some (.val (s13.1.getD 0 undefA))) false
  ((M.len false q16.1).bind fun v17 =>
  .ok (v17, q16.2))
  (.ok (undefA, q16.2))).bind fun q18 =>
  (guardEv (some (.val (s13.1.getD 0 undefA))) false
  ((M.bin Tryz.prog .gtr 3 (.tmp 50) (.const (.int .i64 1)) q18.1 (.int .i64 1)).bind fun v19 =>
  .ok (v19, q18.2))
  (.ok (undefA, q18.2))).bind fun q20 =>
  (M.pick (s13.1.getD 0 undefA) (.bool true) q20.1).bind fun v21 =>
  condEv v21
  (.ok (gc (.bool false) H q20.2))
  (onO (Locs.find s13.2.1 2) fun cs22 =>
  (M.ldc false 1 cs22 3).bind fun v23 =>
  (guardEv (some (.val v23)) true
  (.ok ((s13.1.getD 1 undefA), q20.2))
  (.ok (undefA, q20.2))).bind fun q24 =>
  (guardEv (some (.val v23)) true
  ((M.indexSl 6 q24.1 (.int .i64 0)).bind fun v25 =>
  .ok (v25, q24.2))
  (.ok (undefA, q24.2))).bind fun q26 =>
  (guardEv (some (.val v23)) true
  ((M.fieldAddr 0 q26.1).bind fun v27 =>
  .ok (v27, q26.2))
  (.ok (undefA, q26.2))).bind fun q28 =>
  (guardEv (some (.val v23)) true
  ((M.load false 1 q28.1 q28.2).bind fun v29 =>
  .ok (v29, q28.2))
  (.ok (undefA, q28.2))).bind fun q30 =>
  (guardEv (some (.val v23)) true
  ((M.bin Tryz.prog .eql 3 (.tmp 59) (.const (.int .i64 44)) q30.1 (.int .i64 44)).bind fun v31 =>
  .ok (v31, q30.2))
  (.ok (undefA, q30.2))).bind fun q32 =>
  (M.pick v23 q32.1 (.bool false)).bind fun v33 =>
  (guardEv (some (.val v33)) true
  (.ok ((s13.1.getD 1 undefA), q32.2))
  (.ok (undefA, q32.2))).bind fun q34 =>
  (guardEv (some (.val v33)) true
  ((M.indexSl 6 q34.1 (.int .i64 0)).bind fun v35 =>
  .ok (v35, q34.2))
  (.ok (undefA, q34.2))).bind fun q36 =>
  (guardEv (some (.val v33)) true
  ((M.load true 6 q36.1 q36.2).bind fun v37 =>
  .ok (v37, q36.2))
  (.ok (undefA, q36.2))).bind fun q38 =>
  (guardEv (some (.val v33)) true
  ((Γ 23 [q38.1, (.bool false), (.bool false), (.bool false)] q38.2).bind fun r39 =>
  .ok (r39.1, r39.2))
  (.ok (undefA, q38.2))).bind fun q40 =>
  (M.pick v33 q40.1 (.bool false)).bind fun v41 =>
  (guardEv (some (.val v41)) true
  (.ok ((s13.1.getD 1 undefA), q40.2))
  (.ok (undefA, q40.2))).bind fun q42 =>
  (guardEv (some (.val v41)) true
  ((M.indexSl 6 q42.1 (.int .i64 0)).bind fun v43 =>
  .ok (v43, q42.2))
  (.ok (undefA, q42.2))).bind fun q44 =>
  (guardEv (some (.val v41)) true
  ((M.fieldAddr 4 q44.1).bind fun v45 =>
  .ok (v45, q44.2))
  (.ok (undefA, q44.2))).bind fun q46 =>
  (guardEv (some (.val v41)) true
  ((M.load false 1 q46.1 q46.2).bind fun v47 =>
  .ok (v47, q46.2))
  (.ok (undefA, q46.2))).bind fun q48 =>
  (guardEv (some (.val v41)) true
  ((M.len false q48.1).bind fun v49 =>
  .ok (v49, q48.2))
  (.ok (undefA, q48.2))).bind fun q50 =>
  (guardEv (some (.val v41)) true
  ((M.bin Tryz.prog .gtr 3 (.tmp 73) (.const (.int .i64 0)) q50.1 (.int .i64 0)).bind fun v51 =>
  .ok (v51, q50.2))
  (.ok (undefA, q50.2))).bind fun q52 =>
  (M.pick v41 q52.1 (.bool false)).bind fun v53 =>
  (guardEv (some (.val v53)) true
  (.ok ((s13.1.getD 1 undefA), q52.2))
  (.ok (undefA, q52.2))).bind fun q54 =>
  (guardEv (some (.val v53)) true
  ((M.indexSl 6 q54.1 (.int .i64 0)).bind fun v55 =>
  .ok (v55, q54.2))
  (.ok (undefA, q54.2))).bind fun q56 =>
  (guardEv (some (.val v53)) true
  ((M.load true 6 q56.1 q56.2).bind fun v57 =>
  .ok (v57, q56.2))
  (.ok (undefA, q56.2))).bind fun q58 =>
  (guardEv (some (.val v53)) true
  ((Γ 61 [q58.1, (.int .i64 (-1))] q58.2).bind fun r59 =>
  .ok (r59.1, r59.2))
  (.ok (undefA, q58.2))).bind fun q60 =>
  (M.pick v53 q60.1 (.bool false)).bind fun v61 =>
  (guardEv (some (.val v61)) false
  (.ok ((s13.1.getD 1 undefA), q60.2))
  (.ok (undefA, q60.2))).bind fun q62 =>
  (guardEv (some (.val v61)) false
  ((M.indexSl 6 q62.1 (.int .i64 0)).bind fun v63 =>
  .ok (v63, q62.2))
  (.ok (undefA, q62.2))).bind fun q64 =>
  (guardEv (some (.val v61)) false
  ((M.load true 6 q64.1 q64.2).bind fun v65 =>
  .ok (v65, q64.2))
  (.ok (undefA, q64.2))).bind fun q66 =>
  (guardEv (some (.val v61)) false
  ((Γ 60 [q66.1] q66.2).bind fun r67 =>
  .ok (r67.1, r67.2))
  (.ok (undefA, q66.2))).bind fun q68 =>
  (M.pick v61 (.bool true) q68.1).bind fun v69 =>
  .ok (gc v69 H q68.2)))) fun j70 =>
  condEv (.bool p0_3)
  ((M.len false p0_4).bind fun v71 =>
  (M.bin Tryz.prog .eql 3 (.tmp 26) (.const (.int .i64 0)) v71 (.int .i64 0)).bind fun v72 =>
  (guardEv (some (.val v72)) false
  (.ok (p0_4, q11.2))
  (.ok (undefA, q11.2))).bind fun q73 =>
  (guardEv (some (.val v72)) false
  ((M.indexSl 6 q73.1 (.int .i64 0)).bind fun v74 =>
  .ok (v74, q73.2))
  (.ok (undefA, q73.2))).bind fun q75 =>
  (guardEv (some (.val v72)) false
  ((M.load true 6 q75.1 q75.2).bind fun v76 =>
  .ok (v76, q75.2))
  (.ok (undefA, q75.2))).bind fun q77 =>
  (guardEv (some (.val v72)) false
  ((Γ 59 [q77.1] q77.2).bind fun r78 =>
  .ok (r78.1, r78.2))
  (.ok (undefA, q77.2))).bind fun q79 =>
  (guardEv (some (.val v72)) false
  ((M.un .not q79.1).bind fun v80 =>
  .ok (v80, q79.2))
  (.ok (undefA, q79.2))).bind fun q81 =>
  (guardEv (some (.val v72)) false
  (.ok (q81.1, q81.2))
  (.ok (undefA, q81.2))).bind fun q82 =>
  (guardEv (some (.val q82.1)) true
  (.ok (p0_4, q82.2))
  (.ok (undefA, q82.2))).bind fun q83 =>
  (guardEv (some (.val q82.1)) true
  ((M.indexSl 6 q83.1 (.int .i64 0)).bind fun v84 =>
  .ok (v84, q83.2))
  (.ok (undefA, q83.2))).bind fun q85 =>
  (guardEv (some (.val q82.1)) true
  ((M.load true 6 q85.1 q85.2).bind fun v86 =>
  .ok (v86, q85.2))
  (.ok (undefA, q85.2))).bind fun q87 =>
  (guardEv (some (.val q82.1)) true
  ((Γ 60 [q87.1] q87.2).bind fun r88 =>
  .ok (r88.1, r88.2))
  (.ok (undefA, q87.2))).bind fun q89 =>
  (guardEv (some (.val q82.1)) true
  ((M.un .not q89.1).bind fun v90 =>
  .ok (v90, q89.2))
  (.ok (undefA, q89.2))).bind fun q91 =>
  (guardEv (some (.val v72)) false
  ((M.pick q82.1 q91.1 (.bool false)).bind fun v92 =>
  .ok (v92, q91.2))
  (.ok (undefA, q91.2))).bind fun q93 =>
  (M.pick v72 (.bool true) q93.1).bind fun v94 =>
  condEv v94
  (.ok (gc (.bool false) H q93.2))
  ((M.sliceSl 6 p0_4 (some (.int .i64 1)) none).bind fun v95 =>
  j70 ([(.bool p1), v95], [(2, [(.int .i64 p0_0), (.str p0_1), (.int .u32 p0_2), (.bool p0_3), p0_4, (.int .i64 p0_5)])], q93.2)))
  (j70 ([(.bool p1), p0_4], [(2, [(.int .i64 p0_0), (.str p0_1), (.int .u32 p0_2), (.bool p0_3), p0_4, (.int .i64 p0_5)])], q11.2)))
theorem u39 {glob : Nat → Option (List AV)} {prim : Nat → Option (List AV → Heap → Out (AV × Heap))} (hp : prim 39 = none) (Γ : CallsT) (lp : LoopT Ans) (p0_0 : Int) (p0_1 : (List UInt8)) (p0_2 : Int) (p0_3 : Bool) (p0_4 : AV) (p0_5 : Int) (p1 : Bool) (H : Heap) : runF (X0 glob prim) lp Γ 39 [(.agg [(.int .i64 p0_0), (.str p0_1), (.int .u32 p0_2), (.bool p0_3), p0_4, (.int .i64 p0_5)]), (.bool p1)] H = g39 Γ lp p0_0 p0_1 p0_2 p0_3 p0_4 p0_5 p1 H :=
  (runF_run hp (show trieF.get 39 = some Tryz.f39 by kernel_rfl) (by kernel_rfl) (by kernel_rfl)).trans (by kernel_rfl)
theorem c39 {glob : Nat → Option (List AV)} {prim : Nat → Option (List AV → Heap → Out (AV × Heap))} (hp : prim 39 = none) (p0_0 : Int) (p0_1 : (List UInt8)) (p0_2 : Int) (p0_3 : Bool) (p0_4 : AV) (p0_5 : Int) (p1 : Bool) (H : Heap) {r : Ans} (h : g39 (callW (X0 glob prim)) loopW p0_0 p0_1 p0_2 p0_3 p0_4 p0_5 p1 H = .ok r) : callW (X0 glob prim) 39 [(.agg [(.int .i64 p0_0), (.str p0_1), (.int .u32 p0_2), (.bool p0_3), p0_4, (.int .i64 p0_5)]), (.bool p1)] H = .ok r := callW_of ((u39 hp ..).trans h)
/- crucible/crucibleref08.block -/
noncomputable def g40_l4 (Γ : CallsT) (lp : LoopT Ans) (H : Heap) : LS → (LS → Out Ans) → Out Ans := fun s7 a8 =>
  onO (Locs.find s7.2.1 1) fun cs9 =>
  (M.ldc false 1 cs9 4).bind fun v10 =>
  (M.len false v10).bind fun v11 =>
  (M.bin Tryz.prog .lss 3 (.tmp 12) (.tmp 15) (s7.1.getD 0 undefA) v11).bind fun v12 =>
  condEv v12
  (onO (Locs.find s7.2.1 1) fun cs13 =>
  (M.ldc false 1 cs13 4).bind fun v14 =>
  (M.indexSl 6 v14 (s7.1.getD 0 undefA)).bind fun v15 =>
  (M.load true 6 v15 s7.2.2).bind fun v16 =>
  (Γ 25 [v16, (.bool false)] s7.2.2).bind fun r17 =>
  (M.un .not r17.1).bind fun v18 =>
  (guardEv (some (.val v18)) true
  (onO (Locs.find s7.2.1 1) fun cs19 =>
  (M.ldc false 1 cs19 4).bind fun v20 =>
  .ok (v20, r17.2))
  (.ok (undefA, r17.2))).bind fun q21 =>
  (guardEv (some (.val v18)) true
  (.ok ((s7.1.getD 0 undefA), q21.2))
  (.ok (undefA, q21.2))).bind fun q22 =>
  (guardEv (some (.val v18)) true
  ((M.indexSl 6 q21.1 q22.1).bind fun v23 =>
  .ok (v23, q22.2))
  (.ok (undefA, q22.2))).bind fun q24 =>
  (guardEv (some (.val v18)) true
  ((M.load true 6 q24.1 q24.2).bind fun v25 =>
  .ok (v25, q24.2))
  (.ok (undefA, q24.2))).bind fun q26 =>
  (guardEv (some (.val v18)) true
  ((Γ 62 [q26.1] q26.2).bind fun r27 =>
  .ok (r27.1, r27.2))
  (.ok (undefA, q26.2))).bind fun q28 =>
  (guardEv (some (.val v18)) true
  ((M.un .not q28.1).bind fun v29 =>
  .ok (v29, q28.2))
  (.ok (undefA, q28.2))).bind fun q30 =>
  (M.pick v18 q30.1 (.bool false)).bind fun v31 =>
  condEv v31
  (.ok (gc (.bool false) H q30.2))
  ((M.bin Tryz.prog .add 3 (.tmp 17) (.const (.int .i64 1)) (s7.1.getD 0 undefA) (.int .i64 1)).bind fun v32 =>
  a8 ([v32], s7.2.1, q30.2)))
  (.ok (gc (.bool true) H s7.2.2))
noncomputable def g40 (Γ : CallsT) (lp : LoopT Ans) (p0_0 : Int) (p0_1 : (List UInt8)) (p0_2 : Int) (p0_3 : Bool) (p0_4 : AV) (p0_5 : Int) (H : Heap) : Out Ans :=
  (guardEv (some (.val (.bool ((p0_0 != 47))))) false
  (.ok ((.agg [(.int .i64 p0_0), (.str p0_1), (.int .u32 p0_2), (.bool p0_3), p0_4, (.int .i64 p0_5)]), H.start))
  (.ok (undefA, H.start))).bind fun q1 =>
  (guardEv (some (.val (.bool ((p0_0 != 47))))) false
  ((Γ 23 [q1.1, (.bool false), (.bool false), (.bool false)] q1.2).bind fun r2 =>
  .ok (r2.1, r2.2))
  (.ok (undefA, q1.2))).bind fun q3 =>
  (guardEv (some (.val (.bool ((p0_0 != 47))))) false
  ((M.un .not q3.1).bind fun v4 =>
  .ok (v4, q3.2))
  (.ok (undefA, q3.2))).bind fun q5 =>
  (M.pick (.bool ((p0_0 != 47))) (.bool true) q5.1).bind fun v6 =>
  condEv v6
  (.ok (gc (.bool false) H q5.2))
  (lp (g40_l4 Γ lp H) ([(.int .i64 0)], [(1, [(.int .i64 p0_0), (.str p0_1), (.int .u32 p0_2), (.bool p0_3), p0_4, (.int .i64 p0_5)])], q5.2))
theorem u40 {glob : Nat → Option (List AV)} {prim : Nat → Option (List AV → Heap → Out (AV × Heap))} (hp : prim 40 = none) (Γ : CallsT) (lp : LoopT Ans) (p0_0 : Int) (p0_1 : (List UInt8)) (p0_2 : Int) (p0_3 : Bool) (p0_4 : AV) (p0_5 : Int) (H : Heap) : runF (X0 glob prim) lp Γ 40 [(.agg [(.int .i64 p0_0), (.str p0_1), (.int .u32 p0_2), (.bool p0_3), p0_4, (.int .i64 p0_5)])] H = g40 Γ lp p0_0 p0_1 p0_2 p0_3 p0_4 p0_5 H :=
  (runF_run hp (show trieF.get 40 = some Tryz.f40 by kernel_rfl) (by kernel_rfl) (by kernel_rfl)).trans (by kernel_rfl)
theorem c40 {glob : Nat → Option (List AV)} {prim : Nat → Option (List AV → Heap → Out (AV × Heap))} (hp : prim 40 = none) (p0_0 : Int) (p0_1 : (List UInt8)) (p0_2 : Int) (p0_3 : Bool) (p0_4 : AV) (p0_5 : Int) (H : Heap) {r : Ans} (h : g40 (callW (X0 glob prim)) loopW p0_0 p0_1 p0_2 p0_3 p0_4 p0_5 H = .ok r) : callW (X0 glob prim) 40 [(.agg [(.int .i64 p0_0), (.str p0_1), (.int .u32 p0_2), (.bool p0_3), p0_4, (.int .i64 p0_5)])] H = .ok r := callW_of ((u40 hp ..).trans h)
/- crucible/crucibleref08.put -/
noncomputable def g41 (Γ : CallsT) (lp : LoopT Ans) (p0 : AV) (p1 : (List UInt8)) (H : Heap) : Out Ans :=
  (M.nilCheck p0).bind fun v1 =>
  (M.fieldAddr 0 v1).bind fun v2 =>
  (M.load false 1 v2 H.start).bind fun v3 =>
  (M.len false v3).bind fun v4 =>
  (M.bin Tryz.prog .leq 3 (.tmp 8) (.const (.int .i64 1048576)) v4 (.int .i64 1048576)).bind fun v5 =>
  condEv v5
  ((M.nilCheck p0).bind fun v6 =>
  (M.fieldAddr 0 v6).bind fun v7 =>
  (M.load false 1 v7 H.start).bind fun v8 =>
  (M.append 5 1 1 v8 (.str p1) H.start).bind fun r9 =>
  (M.nilCheck p0).bind fun v10 =>
  (M.fieldAddr 0 v10).bind fun v11 =>
  (M.store 1 v11 r9.1 r9.2).bind fun h12 =>
  .ok (gc (.tup []) H h12))
  (.ok (gc (.tup []) H H.start))
theorem u41 {glob : Nat → Option (List AV)} {prim : Nat → Option (List AV → Heap → Out (AV × Heap))} (hp : prim 41 = none) (Γ : CallsT) (lp : LoopT Ans) (p0 : AV) (p1 : (List UInt8)) (H : Heap) : runF (X0 glob prim) lp Γ 41 [p0, (.str p1)] H = g41 Γ lp p0 p1 H :=
  (runF_run hp (show trieF.get 41 = some Tryz.f41 by kernel_rfl) (by kernel_rfl) (by kernel_rfl)).trans (by kernel_rfl)
theorem c41 {glob : Nat → Option (List AV)} {prim : Nat → Option (List AV → Heap → Out (AV × Heap))} (hp : prim 41 = none) (p0 : AV) (p1 : (List UInt8)) (H : Heap) {r : Ans} (h : g41 (callW (X0 glob prim)) loopW p0 p1 H = .ok r) : callW (X0 glob prim) 41 [p0, (.str p1)] H = .ok r := callW_of ((u41 hp ..).trans h)
/- crucible/crucibleref08.declared -/
noncomputable def g42 (Γ : CallsT) (lp : LoopT Ans) (p0 : AV) (p1_0 : Int) (p1_1 : (List UInt8)) (p1_2 : Int) (p1_3 : Bool) (p1_4 : AV) (p1_5 : Int) (H : Heap) : Out Ans :=
  (Γ 41 [p0, (.str p1_1)] H.start).bind fun r1 =>
  jn (fun s2 =>
  (M.len false (s2.1.getD 1 undefA)).bind fun v3 =>
  (M.bin Tryz.prog .eql 3 (.tmp 30) (.const (.int .i64 0)) v3 (.int .i64 0)).bind fun v4 =>
  condEv v4
  (.ok (gc (.tup []) H s2.2.2))
  ((Γ 41 [(s2.1.getD 0 undefA), (.str [32, 61, 32])] s2.2.2).bind fun r5 =>
  (M.indexSl 6 (s2.1.getD 1 undefA) (.int .i64 0)).bind fun v6 =>
  (M.fieldAddr 0 v6).bind fun v7 =>
  (M.load false 1 v7 r5.2).bind fun v8 =>
  (M.bin Tryz.prog .neq 3 (.tmp 37) (.const (.int .i64 44)) v8 (.int .i64 44)).bind fun v9 =>
  condEv v9
  ((M.indexSl 6 (s2.1.getD 1 undefA) (.int .i64 0)).bind fun v10 =>
  (M.load true 6 v10 r5.2).bind fun v11 =>
  (Γ 44 [(s2.1.getD 0 undefA), v11, (.int .i64 0)] r5.2).bind fun r12 =>
  .ok (gc (.tup []) H r12.2))
  ((Γ 41 [(s2.1.getD 0 undefA), (.str [123])] r5.2).bind fun r13 =>
  (M.indexSl 6 (s2.1.getD 1 undefA) (.int .i64 0)).bind fun v14 =>
  (M.fieldAddr 4 v14).bind fun v15 =>
  (M.load false 1 v15 r13.2).bind fun v16 =>
  (Γ 63 [(s2.1.getD 0 undefA), v16] r13.2).bind fun r17 =>
  (Γ 41 [(s2.1.getD 0 undefA), (.str [125])] r17.2).bind fun r18 =>
  .ok (gc (.tup []) H r18.2)))) fun j19 =>
  condEv (.bool p1_3)
  ((Γ 41 [p0, (.str [91])] r1.2).bind fun r20 =>
  jn (fun s21 =>
  (Γ 41 [(s21.1.getD 0 undefA), (.str [93])] s21.2.2).bind fun r22 =>
  (M.sliceSl 6 (s21.1.getD 1 undefA) (some (.int .i64 1)) none).bind fun v23 =>
  j19 ([(s21.1.getD 0 undefA), v23], s21.2.1, r22.2)) fun j24 =>
  (M.indexSl 6 p1_4 (.int .i64 0)).bind fun v25 =>
  (M.fieldAddr 0 v25).bind fun v26 =>
  (M.load false 1 v26 r20.2).bind fun v27 =>
  (M.bin Tryz.prog .neq 3 (.tmp 18) (.const (.int .i64 56)) v27 (.int .i64 56)).bind fun v28 =>
  condEv v28
  ((M.indexSl 6 p1_4 (.int .i64 0)).bind fun v29 =>
  (M.load true 6 v29 r20.2).bind fun v30 =>
  (Γ 44 [p0, v30, (.int .i64 0)] r20.2).bind fun r31 =>
  j24 ([p0, p1_4], [(3, [(.int .i64 p1_0), (.str p1_1), (.int .u32 p1_2), (.bool p1_3), p1_4, (.int .i64 p1_5)])], r31.2))
  (j24 ([p0, p1_4], [(3, [(.int .i64 p1_0), (.str p1_1), (.int .u32 p1_2), (.bool p1_3), p1_4, (.int .i64 p1_5)])], r20.2)))
  (j19 ([p0, p1_4], [(3, [(.int .i64 p1_0), (.str p1_1), (.int .u32 p1_2), (.bool p1_3), p1_4, (.int .i64 p1_5)])], r1.2))
theorem u42 {glob : Nat → Option (List AV)} {prim : Nat → Option (List AV → Heap → Out (AV × Heap))} (hp : prim 42 = none) (Γ : CallsT) (lp : LoopT Ans) (p0 : AV) (p1_0 : Int) (p1_1 : (List UInt8)) (p1_2 : Int) (p1_3 : Bool) (p1_4 : AV) (p1_5 : Int) (H : Heap) : runF (X0 glob prim) lp Γ 42 [p0, (.agg [(.int .i64 p1_0), (.str p1_1), (.int .u32 p1_2), (.bool p1_3), p1_4, (.int .i64 p1_5)])] H = g42 Γ lp p0 p1_0 p1_1 p1_2 p1_3 p1_4 p1_5 H :=
  (runF_run hp (show trieF.get 42 = some Tryz.f42 by kernel_rfl) (by kernel_rfl) (by kernel_rfl)).trans (by kernel_rfl)
theorem c42 {glob : Nat → Option (List AV)} {prim : Nat → Option (List AV → Heap → Out (AV × Heap))} (hp : prim 42 = none) (p0 : AV) (p1_0 : Int) (p1_1 : (List UInt8)) (p1_2 : Int) (p1_3 : Bool) (p1_4 : AV) (p1_5 : Int) (H : Heap) {r : Ans} (h : g42 (callW (X0 glob prim)) loopW p0 p1_0 p1_1 p1_2 p1_3 p1_4 p1_5 H = .ok r) : callW (X0 glob prim) 42 [p0, (.agg [(.int .i64 p1_0), (.str p1_1), (.int .u32 p1_2), (.bool p1_3), p1_4, (.int .i64 p1_5)])] H = .ok r := callW_of ((u42 hp ..).trans h)
/- crucible/crucibleref08.function2 -/
noncomputable def g43_l4 (Γ : CallsT) (lp : LoopT Ans) (H : Heap) : LS → (LS → Out Ans) → Out Ans := fun s10 a11 =>
  (M.bin Tryz.prog .lss 3 (.tmp 23) (.tmp 24) (s10.1.getD 2 undefA) (s10.1.getD 1 undefA)).bind fun v12 =>
  condEv v12
  (jn (fun s13 =>
  (M.bin Tryz.prog .add 3 (.tmp 26) (.const (.int .i64 1)) (s13.1.getD 2 undefA) (.int .i64 1)).bind fun v14 =>
  a11 ([(s13.1.getD 0 undefA), (s13.1.getD 1 undefA), v14], s13.2.1, s13.2.2)) fun j15 =>
  jn (fun s16 =>
  onO (Locs.find s16.2.1 3) fun cs17 =>
  (M.ldc false 1 cs17 4).bind fun v18 =>
  (M.indexSl 6 v18 (s16.1.getD 2 undefA)).bind fun v19 =>
  (M.load true 6 v19 s16.2.2).bind fun v20 =>
  onO (Locs.find (Locs.put s16.2.1 6 [(.int .i64 0), (.str []), (.int .u32 0), (.bool false), nilSlice, (.int .i64 0)]) 6) fun cs21 =>
  (M.stc 6 cs21 0 v20).bind fun cs22 =>
  onO (Locs.find (Locs.put (Locs.put s16.2.1 6 [(.int .i64 0), (.str []), (.int .u32 0), (.bool false), nilSlice, (.int .i64 0)]) 6 cs22) 6) fun cs23 =>
  (M.ldc false 1 cs23 4).bind fun v24 =>
  (M.indexSl 6 v24 (.int .i64 0)).bind fun v25 =>
  (M.fieldAddr 1 v25).bind fun v26 =>
  (M.load false 1 v26 s16.2.2).bind fun v27 =>
  (M.bin Tryz.prog .add 9 (.tmp 42) (.const (.string ⟨⟨[32]⟩⟩)) v27 (.str [32])).bind fun v28 =>
  (Γ 41 [(s16.1.getD 0 undefA), v28] s16.2.2).bind fun r29 =>
  jn (fun s30 =>
  onO (Locs.find s30.2.1 6) fun cs31 =>
  (M.ldc false 1 cs31 1).bind fun v32 =>
  (Γ 41 [(s30.1.getD 0 undefA), v32] s30.2.2).bind fun r33 =>
  onO (Locs.find s30.2.1 6) fun cs34 =>
  (M.ldc false 1 cs34 3).bind fun v35 =>
  condEv v35
  ((Γ 41 [(s30.1.getD 0 undefA), (.str [91, 93])] r33.2).bind fun r36 =>
  j15 ([(s30.1.getD 0 undefA), (s30.1.getD 1 undefA), (s30.1.getD 2 undefA)], s30.2.1, r36.2))
  (j15 ([(s30.1.getD 0 undefA), (s30.1.getD 1 undefA), (s30.1.getD 2 undefA)], s30.2.1, r33.2))) fun j37 =>
  onO (Locs.find (Locs.put (Locs.put s16.2.1 6 [(.int .i64 0), (.str []), (.int .u32 0), (.bool false), nilSlice, (.int .i64 0)]) 6 cs22) 6) fun cs38 =>
  (M.ldc false 1 cs38 2).bind fun v39 =>
  (M.bin Tryz.prog .eql 22 (.tmp 46) (.const (.int .u32 1)) v39 (.int .u32 1)).bind fun v40 =>
  condEv v40
  ((Γ 41 [(s16.1.getD 0 undefA), (.str [42])] r29.2).bind fun r41 =>
  j37 ([(s16.1.getD 0 undefA), (s16.1.getD 1 undefA), (s16.1.getD 2 undefA)], (Locs.put (Locs.put s16.2.1 6 [(.int .i64 0), (.str []), (.int .u32 0), (.bool false), nilSlice, (.int .i64 0)]) 6 cs22), r41.2))
  (j37 ([(s16.1.getD 0 undefA), (s16.1.getD 1 undefA), (s16.1.getD 2 undefA)], (Locs.put (Locs.put s16.2.1 6 [(.int .i64 0), (.str []), (.int .u32 0), (.bool false), nilSlice, (.int .i64 0)]) 6 cs22), r29.2))) fun j42 =>
  (M.bin Tryz.prog .gtr 3 (.tmp 28) (.const (.int .i64 1)) (s10.1.getD 2 undefA) (.int .i64 1)).bind fun v43 =>
  condEv v43
  ((Γ 41 [(s10.1.getD 0 undefA), (.str [44, 32])] s10.2.2).bind fun r44 =>
  j42 ([(s10.1.getD 0 undefA), (s10.1.getD 1 undefA), (s10.1.getD 2 undefA)], s10.2.1, r44.2))
  (j42 ([(s10.1.getD 0 undefA), (s10.1.getD 1 undefA), (s10.1.getD 2 undefA)], s10.2.1, s10.2.2)))
  ((Γ 41 [(s10.1.getD 0 undefA), (.str [41, 32])] s10.2.2).bind fun r45 =>
  onO (Locs.find s10.2.1 3) fun cs46 =>
  (M.ldc false 1 cs46 4).bind fun v47 =>
  (M.indexSl 6 v47 (s10.1.getD 1 undefA)).bind fun v48 =>
  (M.load true 6 v48 r45.2).bind fun v49 =>
  (Γ 27 [(s10.1.getD 0 undefA), v49] r45.2).bind fun r50 =>
  .ok (gc (.tup []) H r50.2))
noncomputable def g43 (Γ : CallsT) (lp : LoopT Ans) (p0 : AV) (p1_0 : Int) (p1_1 : (List UInt8)) (p1_2 : Int) (p1_3 : Bool) (p1_4 : AV) (p1_5 : Int) (H : Heap) : Out Ans :=
  (M.len false p1_4).bind fun v1 =>
  (M.bin Tryz.prog .sub 3 (.tmp 9) (.const (.int .i64 1)) v1 (.int .i64 1)).bind fun v2 =>
  (M.indexSl 6 p1_4 (.int .i64 0)).bind fun v3 =>
  (M.fieldAddr 1 v3).bind fun v4 =>
  (M.load false 1 v4 H.start).bind fun v5 =>
  (M.bin Tryz.prog .add 9 (.tmp 16) (.const (.string ⟨⟨[32]⟩⟩)) v5 (.str [32])).bind fun v6 =>
  (M.bin Tryz.prog .add 9 (.tmp 17) (.tmp 19) v6 (.str p1_1)).bind fun v7 =>
  (M.bin Tryz.prog .add 9 (.tmp 20) (.const (.string ⟨⟨[40]⟩⟩)) v7 (.str [40])).bind fun v8 =>
  (Γ 41 [p0, v8] H.start).bind fun r9 =>
  lp (g43_l4 Γ lp H) ([p0, v2, (.int .i64 1)], [(3, [(.int .i64 p1_0), (.str p1_1), (.int .u32 p1_2), (.bool p1_3), p1_4, (.int .i64 p1_5)])], r9.2)
theorem u43 {glob : Nat → Option (List AV)} {prim : Nat → Option (List AV → Heap → Out (AV × Heap))} (hp : prim 43 = none) (Γ : CallsT) (lp : LoopT Ans) (p0 : AV) (p1_0 : Int) (p1_1 : (List UInt8)) (p1_2 : Int) (p1_3 : Bool) (p1_4 : AV) (p1_5 : Int) (H : Heap) : runF (X0 glob prim) lp Γ 43 [p0, (.agg [(.int .i64 p1_0), (.str p1_1), (.int .u32 p1_2), (.bool p1_3), p1_4, (.int .i64 p1_5)])] H = g43 Γ lp p0 p1_0 p1_1 p1_2 p1_3 p1_4 p1_5 H :=
  (runF_run hp (show trieF.get 43 = some Tryz.f43 by kernel_rfl) (by kernel_rfl) (by kernel_rfl)).trans (by kernel_rfl)
theorem c43 {glob : Nat → Option (List AV)} {prim : Nat → Option (List AV → Heap → Out (AV × Heap))} (hp : prim 43 = none) (p0 : AV) (p1_0 : Int) (p1_1 : (List UInt8)) (p1_2 : Int) (p1_3 : Bool) (p1_4 : AV) (p1_5 : Int) (H : Heap) {r : Ans} (h : g43 (callW (X0 glob prim)) loopW p0 p1_0 p1_1 p1_2 p1_3 p1_4 p1_5 H = .ok r) : callW (X0 glob prim) 43 [p0, (.agg [(.int .i64 p1_0), (.str p1_1), (.int .u32 p1_2), (.bool p1_3), p1_4, (.int .i64 p1_5)])] H = .ok r := callW_of ((u43 hp ..).trans h)
/- crucible/crucibleref08.at -/
noncomputable def g44 (Γ : CallsT) (lp : LoopT Ans) (p0 : AV) (p1_0 : Int) (p1_1 : (List UInt8)) (p1_2 : Int) (p1_3 : Bool) (p1_4 : AV) (p1_5 : Int) (p2 : Int) (H : Heap) : Out Ans :=
  (Γ 64 [(.agg [(.int .i64 p1_0), (.str p1_1), (.int .u32 p1_2), (.bool p1_3), p1_4, (.int .i64 p1_5)])] H.start).bind fun r1 =>
  (M.bin Tryz.prog .lss 3 (.tmp 7) (.tmp 8) r1.1 (.int .i64 p2)).bind fun v2 =>
  condEv v2
  ((Γ 41 [p0, (.str [40])] r1.2).bind fun r3 =>
  (Γ 65 [p0, (.agg [(.int .i64 p1_0), (.str p1_1), (.int .u32 p1_2), (.bool p1_3), p1_4, (.int .i64 p1_5)])] r3.2).bind fun r4 =>
  (Γ 41 [p0, (.str [41])] r4.2).bind fun r5 =>
  .ok (gc (.tup []) H r5.2))
  ((Γ 65 [p0, (.agg [(.int .i64 p1_0), (.str p1_1), (.int .u32 p1_2), (.bool p1_3), p1_4, (.int .i64 p1_5)])] r1.2).bind fun r6 =>
  .ok (gc (.tup []) H r6.2))
theorem u44 {glob : Nat → Option (List AV)} {prim : Nat → Option (List AV → Heap → Out (AV × Heap))} (hp : prim 44 = none) (Γ : CallsT) (lp : LoopT Ans) (p0 : AV) (p1_0 : Int) (p1_1 : (List UInt8)) (p1_2 : Int) (p1_3 : Bool) (p1_4 : AV) (p1_5 : Int) (p2 : Int) (H : Heap) : runF (X0 glob prim) lp Γ 44 [p0, (.agg [(.int .i64 p1_0), (.str p1_1), (.int .u32 p1_2), (.bool p1_3), p1_4, (.int .i64 p1_5)]), (.int .i64 p2)] H = g44 Γ lp p0 p1_0 p1_1 p1_2 p1_3 p1_4 p1_5 p2 H :=
  (runF_run hp (show trieF.get 44 = some Tryz.f44 by kernel_rfl) (by kernel_rfl) (by kernel_rfl)).trans (by kernel_rfl)
theorem c44 {glob : Nat → Option (List AV)} {prim : Nat → Option (List AV → Heap → Out (AV × Heap))} (hp : prim 44 = none) (p0 : AV) (p1_0 : Int) (p1_1 : (List UInt8)) (p1_2 : Int) (p1_3 : Bool) (p1_4 : AV) (p1_5 : Int) (p2 : Int) (H : Heap) {r : Ans} (h : g44 (callW (X0 glob prim)) loopW p0 p1_0 p1_1 p1_2 p1_3 p1_4 p1_5 p2 H = .ok r) : callW (X0 glob prim) 44 [p0, (.agg [(.int .i64 p1_0), (.str p1_1), (.int .u32 p1_2), (.bool p1_3), p1_4, (.int .i64 p1_5)]), (.int .i64 p2)] H = .ok r := callW_of ((u44 hp ..).trans h)
/- crucible/crucibleref08.test -/
noncomputable def g45 (Γ : CallsT) (lp : LoopT Ans) (p0 : AV) (p1 : (List UInt8)) (p2_0 : Int) (p2_1 : (List UInt8)) (p2_2 : Int) (p2_3 : Bool) (p2_4 : AV) (p2_5 : Int) (p3 : (List UInt8)) (H : Heap) : Out Ans :=
  (M.bin Tryz.prog .add 9 (.tmp 9) (.const (.string ⟨⟨[32, 40]⟩⟩)) (.str p1) (.str [32, 40])).bind fun v1 =>
  (Γ 41 [p0, v1] H.start).bind fun r2 =>
  (Γ 44 [p0, (.agg [(.int .i64 p2_0), (.str p2_1), (.int .u32 p2_2), (.bool p2_3), p2_4, (.int .i64 p2_5)]), (.int .i64 0)] r2.2).bind fun r3 =>
  (M.bin Tryz.prog .add 9 (.const (.string ⟨⟨[41]⟩⟩)) (.tmp 16) (.str [41]) (.str p3)).bind fun v4 =>
  (Γ 41 [p0, v4] r3.2).bind fun r5 =>
  .ok (gc (.tup []) H r5.2)
theorem u45 {glob : Nat → Option (List AV)} {prim : Nat → Option (List AV → Heap → Out (AV × Heap))} (hp : prim 45 = none) (Γ : CallsT) (lp : LoopT Ans) (p0 : AV) (p1 : (List UInt8)) (p2_0 : Int) (p2_1 : (List UInt8)) (p2_2 : Int) (p2_3 : Bool) (p2_4 : AV) (p2_5 : Int) (p3 : (List UInt8)) (H : Heap) : runF (X0 glob prim) lp Γ 45 [p0, (.str p1), (.agg [(.int .i64 p2_0), (.str p2_1), (.int .u32 p2_2), (.bool p2_3), p2_4, (.int .i64 p2_5)]), (.str p3)] H = g45 Γ lp p0 p1 p2_0 p2_1 p2_2 p2_3 p2_4 p2_5 p3 H :=
  (runF_run hp (show trieF.get 45 = some Tryz.f45 by kernel_rfl) (by kernel_rfl) (by kernel_rfl)).trans (by kernel_rfl)
theorem c45 {glob : Nat → Option (List AV)} {prim : Nat → Option (List AV → Heap → Out (AV × Heap))} (hp : prim 45 = none) (p0 : AV) (p1 : (List UInt8)) (p2_0 : Int) (p2_1 : (List UInt8)) (p2_2 : Int) (p2_3 : Bool) (p2_4 : AV) (p2_5 : Int) (p3 : (List UInt8)) (H : Heap) {r : Ans} (h : g45 (callW (X0 glob prim)) loopW p0 p1 p2_0 p2_1 p2_2 p2_3 p2_4 p2_5 p3 H = .ok r) : callW (X0 glob prim) 45 [p0, (.str p1), (.agg [(.int .i64 p2_0), (.str p2_1), (.int .u32 p2_2), (.bool p2_3), p2_4, (.int .i64 p2_5)]), (.str p3)] H = .ok r := callW_of ((u45 hp ..).trans h)
/- crucible/crucibleref08.loop -/
noncomputable def g46_l3 (Γ : CallsT) (lp : LoopT Ans) (H : Heap) : LS → (LS → Out Ans) → Out Ans := fun s2 a3 =>
  (M.bin Tryz.prog .lss 3 (.tmp 7) (.const (.int .i64 3)) (s2.1.getD 1 undefA) (.int .i64 3)).bind fun v4 =>
  condEv v4
  (jn (fun s5 =>
  (M.bin Tryz.prog .add 3 (.tmp 9) (.const (.int .i64 1)) (s5.1.getD 1 undefA) (.int .i64 1)).bind fun v6 =>
  a3 ([(s5.1.getD 0 undefA), v6], s5.2.1, s5.2.2)) fun j7 =>
  jn (fun s8 =>
  onO (Locs.find s8.2.1 3) fun cs9 =>
  (M.ldc false 1 cs9 4).bind fun v10 =>
  (M.indexSl 6 v10 (s8.1.getD 1 undefA)).bind fun v11 =>
  (M.fieldAddr 0 v11).bind fun v12 =>
  (M.load false 1 v12 s8.2.2).bind fun v13 =>
  (M.bin Tryz.prog .neq 3 (.tmp 20) (.const (.int .i64 56)) v13 (.int .i64 56)).bind fun v14 =>
  condEv v14
  (onO (Locs.find s8.2.1 3) fun cs15 =>
  (M.ldc false 1 cs15 4).bind fun v16 =>
  (M.indexSl 6 v16 (s8.1.getD 1 undefA)).bind fun v17 =>
  (M.load true 6 v17 s8.2.2).bind fun v18 =>
  (Γ 44 [(s8.1.getD 0 undefA), v18, (.int .i64 0)] s8.2.2).bind fun r19 =>
  j7 ([(s8.1.getD 0 undefA), (s8.1.getD 1 undefA)], s8.2.1, r19.2))
  (j7 ([(s8.1.getD 0 undefA), (s8.1.getD 1 undefA)], s8.2.1, s8.2.2))) fun j20 =>
  (M.bin Tryz.prog .gtr 3 (.tmp 11) (.const (.int .i64 0)) (s2.1.getD 1 undefA) (.int .i64 0)).bind fun v21 =>
  condEv v21
  ((Γ 41 [(s2.1.getD 0 undefA), (.str [59, 32])] s2.2.2).bind fun r22 =>
  j20 ([(s2.1.getD 0 undefA), (s2.1.getD 1 undefA)], s2.2.1, r22.2))
  (j20 ([(s2.1.getD 0 undefA), (s2.1.getD 1 undefA)], s2.2.1, s2.2.2)))
  ((Γ 41 [(s2.1.getD 0 undefA), (.str [41, 10])] s2.2.2).bind fun r23 =>
  onO (Locs.find s2.2.1 3) fun cs24 =>
  (M.ldc false 1 cs24 4).bind fun v25 =>
  (M.indexSl 6 v25 (.int .i64 3)).bind fun v26 =>
  (M.load true 6 v26 r23.2).bind fun v27 =>
  (Γ 27 [(s2.1.getD 0 undefA), v27] r23.2).bind fun r28 =>
  .ok (gc (.tup []) H r28.2))
noncomputable def g46 (Γ : CallsT) (lp : LoopT Ans) (p0 : AV) (p1_0 : Int) (p1_1 : (List UInt8)) (p1_2 : Int) (p1_3 : Bool) (p1_4 : AV) (p1_5 : Int) (H : Heap) : Out Ans :=
  (Γ 41 [p0, (.str [102, 111, 114, 32, 40])] H.start).bind fun r1 =>
  lp (g46_l3 Γ lp H) ([p0, (.int .i64 0)], [(3, [(.int .i64 p1_0), (.str p1_1), (.int .u32 p1_2), (.bool p1_3), p1_4, (.int .i64 p1_5)])], r1.2)
theorem u46 {glob : Nat → Option (List AV)} {prim : Nat → Option (List AV → Heap → Out (AV × Heap))} (hp : prim 46 = none) (Γ : CallsT) (lp : LoopT Ans) (p0 : AV) (p1_0 : Int) (p1_1 : (List UInt8)) (p1_2 : Int) (p1_3 : Bool) (p1_4 : AV) (p1_5 : Int) (H : Heap) : runF (X0 glob prim) lp Γ 46 [p0, (.agg [(.int .i64 p1_0), (.str p1_1), (.int .u32 p1_2), (.bool p1_3), p1_4, (.int .i64 p1_5)])] H = g46 Γ lp p0 p1_0 p1_1 p1_2 p1_3 p1_4 p1_5 H :=
  (runF_run hp (show trieF.get 46 = some Tryz.f46 by kernel_rfl) (by kernel_rfl) (by kernel_rfl)).trans (by kernel_rfl)
theorem c46 {glob : Nat → Option (List AV)} {prim : Nat → Option (List AV → Heap → Out (AV × Heap))} (hp : prim 46 = none) (p0 : AV) (p1_0 : Int) (p1_1 : (List UInt8)) (p1_2 : Int) (p1_3 : Bool) (p1_4 : AV) (p1_5 : Int) (H : Heap) {r : Ans} (h : g46 (callW (X0 glob prim)) loopW p0 p1_0 p1_1 p1_2 p1_3 p1_4 p1_5 H = .ok r) : callW (X0 glob prim) 46 [p0, (.agg [(.int .i64 p1_0), (.str p1_1), (.int .u32 p1_2), (.bool p1_3), p1_4, (.int .i64 p1_5)])] H = .ok r := callW_of ((u46 hp ..).trans h)
/- crucible/ast.expression -/
noncomputable def g47 (Γ : CallsT) (lp : LoopT Ans) (p0_0 : Int) (p0_1 : (List UInt8)) (p0_2 : Int) (p0_3 : Bool) (p0_4 : AV) (p0_5 : Int) (H : Heap) : Out Ans :=
  (guardEv (some (.val (.bool (decide (p0_0 ≥ 1))))) true
  (.ok ((.int .i64 p0_0), H.start))
  (.ok (undefA, H.start))).bind fun q1 =>
  (guardEv (some (.val (.bool (decide (p0_0 ≥ 1))))) true
  ((M.bin Tryz.prog .leq 3 (.tmp 8) (.const (.int .i64 15)) q1.1 (.int .i64 15)).bind fun v2 =>
  .ok (v2, q1.2))
  (.ok (undefA, q1.2))).bind fun q3 =>
  (M.pick (.bool (decide (p0_0 ≥ 1))) q3.1 (.bool false)).bind fun v4 =>
  .ok (gc v4 H q3.2)
theorem u47 {glob : Nat → Option (List AV)} {prim : Nat → Option (List AV → Heap → Out (AV × Heap))} (hp : prim 47 = none) (Γ : CallsT) (lp : LoopT Ans) (p0_0 : Int) (p0_1 : (List UInt8)) (p0_2 : Int) (p0_3 : Bool) (p0_4 : AV) (p0_5 : Int) (H : Heap) : runF (X0 glob prim) lp Γ 47 [(.agg [(.int .i64 p0_0), (.str p0_1), (.int .u32 p0_2), (.bool p0_3), p0_4, (.int .i64 p0_5)])] H = g47 Γ lp p0_0 p0_1 p0_2 p0_3 p0_4 p0_5 H :=
  (runF_run hp (show trieF.get 47 = some Tryz.f47 by kernel_rfl) (by kernel_rfl) (by kernel_rfl)).trans (by kernel_rfl)
theorem c47 {glob : Nat → Option (List AV)} {prim : Nat → Option (List AV → Heap → Out (AV × Heap))} (hp : prim 47 = none) (p0_0 : Int) (p0_1 : (List UInt8)) (p0_2 : Int) (p0_3 : Bool) (p0_4 : AV) (p0_5 : Int) (H : Heap) {r : Ans} (h : g47 (callW (X0 glob prim)) loopW p0_0 p0_1 p0_2 p0_3 p0_4 p0_5 H = .ok r) : callW (X0 glob prim) 47 [(.agg [(.int .i64 p0_0), (.str p0_1), (.int .u32 p0_2), (.bool p0_3), p0_4, (.int .i64 p0_5)])] H = .ok r := callW_of ((u47 hp ..).trans h)
/- crucible/ast.expressions -/
noncomputable def g48 (Γ : CallsT) (lp : LoopT Ans) (p0_0 : Int) (p0_1 : (List UInt8)) (p0_2 : Int) (p0_3 : Bool) (p0_4 : AV) (p0_5 : Int) (H : Heap) : Out Ans :=
  (guardEv (some (.val (.bool (p0_1 == [])))) true
  (.ok ((.int .u32 p0_2), H.start))
  (.ok (undefA, H.start))).bind fun q1 =>
  (guardEv (some (.val (.bool (p0_1 == [])))) true
  ((M.bin Tryz.prog .eql 22 (.tmp 9) (.const (.int .u32 0)) q1.1 (.int .u32 0)).bind fun v2 =>
  .ok (v2, q1.2))
  (.ok (undefA, q1.2))).bind fun q3 =>
  (M.pick (.bool (p0_1 == [])) q3.1 (.bool false)).bind fun v4 =>
  condEv (.bool ((p0_0 == 1)))
  ((guardEv (some (.val (.bool (p0_1 == [])))) true
  (.ok ((.int .u32 p0_2), q3.2))
  (.ok (undefA, q3.2))).bind fun q5 =>
  (guardEv (some (.val (.bool (p0_1 == [])))) true
  ((M.bin Tryz.prog .lss 22 (.tmp 21) (.const (.int .u32 2147483648)) q5.1 (.int .u32 2147483648)).bind fun v6 =>
  .ok (v6, q5.2))
  (.ok (undefA, q5.2))).bind fun q7 =>
  (guardEv (some (.val (.bool (p0_1 == [])))) true
  (.ok (q7.1, q7.2))
  (.ok (undefA, q7.2))).bind fun q8 =>
  (guardEv (some (.val q8.1)) false
  (.ok ((.bool p0_3), q8.2))
  (.ok (undefA, q8.2))).bind fun q9 =>
  (guardEv (some (.val (.bool (p0_1 == [])))) true
  ((M.pick q8.1 (.bool true) q9.1).bind fun v10 =>
  .ok (v10, q9.2))
  (.ok (undefA, q9.2))).bind fun q11 =>
  (M.pick (.bool (p0_1 == [])) q11.1 (.bool false)).bind fun v12 =>
  (guardEv (some (.val v12)) true
  (.ok (p0_4, q11.2))
  (.ok (undefA, q11.2))).bind fun q13 =>
  (guardEv (some (.val v12)) true
  ((M.len false q13.1).bind fun v14 =>
  .ok (v14, q13.2))
  (.ok (undefA, q13.2))).bind fun q15 =>
  (guardEv (some (.val v12)) true
  ((M.bin Tryz.prog .eql 3 (.tmp 31) (.const (.int .i64 0)) q15.1 (.int .i64 0)).bind fun v16 =>
  .ok (v16, q15.2))
  (.ok (undefA, q15.2))).bind fun q17 =>
  (M.pick v12 q17.1 (.bool false)).bind fun v18 =>
  .ok (gc v18 H q17.2))
  (condEv (.bool ((p0_0 == 2)))
  ((guardEv (some (.val (.bool (p0_1 == [])))) true
  (.ok ((.int .u32 p0_2), q3.2))
  (.ok (undefA, q3.2))).bind fun q19 =>
  (guardEv (some (.val (.bool (p0_1 == [])))) true
  ((M.bin Tryz.prog .lss 22 (.tmp 41) (.const (.int .u32 256)) q19.1 (.int .u32 256)).bind fun v20 =>
  .ok (v20, q19.2))
  (.ok (undefA, q19.2))).bind fun q21 =>
  (M.pick (.bool (p0_1 == [])) q21.1 (.bool false)).bind fun v22 =>
  (guardEv (some (.val v22)) true
  (.ok (p0_4, q21.2))
  (.ok (undefA, q21.2))).bind fun q23 =>
  (guardEv (some (.val v22)) true
  ((M.len false q23.1).bind fun v24 =>
  .ok (v24, q23.2))
  (.ok (undefA, q23.2))).bind fun q25 =>
  (guardEv (some (.val v22)) true
  ((M.bin Tryz.prog .eql 3 (.tmp 47) (.const (.int .i64 0)) q25.1 (.int .i64 0)).bind fun v26 =>
  .ok (v26, q25.2))
  (.ok (undefA, q25.2))).bind fun q27 =>
  (M.pick v22 q27.1 (.bool false)).bind fun v28 =>
  .ok (gc v28 H q27.2))
  (condEv (.bool ((p0_0 == 3)))
  ((guardEv (some (.val (.bool ((p0_2 == 0))))) true
  (.ok (p0_4, q3.2))
  (.ok (undefA, q3.2))).bind fun q29 =>
  (guardEv (some (.val (.bool ((p0_2 == 0))))) true
  ((M.len false q29.1).bind fun v30 =>
  .ok (v30, q29.2))
  (.ok (undefA, q29.2))).bind fun q31 =>
  (guardEv (some (.val (.bool ((p0_2 == 0))))) true
  ((M.bin Tryz.prog .eql 3 (.tmp 58) (.const (.int .i64 0)) q31.1 (.int .i64 0)).bind fun v32 =>
  .ok (v32, q31.2))
  (.ok (undefA, q31.2))).bind fun q33 =>
  (M.pick (.bool ((p0_2 == 0))) q33.1 (.bool false)).bind fun v34 =>
  .ok (gc v34 H q33.2))
  (condEv (.bool ((p0_0 == 4)))
  ((guardEv (some (.val (.bool ((p0_2 == 0))))) true
  (.ok ((.str p0_1), q3.2))
  (.ok (undefA, q3.2))).bind fun q35 =>
  (guardEv (some (.val (.bool ((p0_2 == 0))))) true
  ((Γ 66 [q35.1] q35.2).bind fun r36 =>
  .ok (r36.1, r36.2))
  (.ok (undefA, q35.2))).bind fun q37 =>
  (M.pick (.bool ((p0_2 == 0))) q37.1 (.bool false)).bind fun v38 =>
  (guardEv (some (.val v38)) true
  (.ok (p0_4, q37.2))
  (.ok (undefA, q37.2))).bind fun q39 =>
  (guardEv (some (.val v38)) true
  ((M.len false q39.1).bind fun v40 =>
  .ok (v40, q39.2))
  (.ok (undefA, q39.2))).bind fun q41 =>
  (guardEv (some (.val v38)) true
  ((M.bin Tryz.prog .eql 3 (.tmp 74) (.const (.int .i64 0)) q41.1 (.int .i64 0)).bind fun v42 =>
  .ok (v42, q41.2))
  (.ok (undefA, q41.2))).bind fun q43 =>
  (M.pick v38 q43.1 (.bool false)).bind fun v44 =>
  .ok (gc v44 H q43.2))
  (condEv (.bool ((p0_0 == 5)))
  ((guardEv (some (.val v4)) true
  (.ok (p0_4, q3.2))
  (.ok (undefA, q3.2))).bind fun q45 =>
  (guardEv (some (.val v4)) true
  (.ok ((.isl 1 [(.fn (.func 47) [] []), (.fn (.func 47) [] [])]), q45.2))
  (.ok (undefA, q45.2))).bind fun q46 =>
  (guardEv (some (.val v4)) true
  ((Γ 67 [q45.1, q46.1] q46.2).bind fun r47 =>
  .ok (r47.1, r47.2))
  (.ok (undefA, q46.2))).bind fun q48 =>
  (M.pick v4 q48.1 (.bool false)).bind fun v49 =>
  .ok (gc v49 H q48.2))
  (jn (fun s50 =>
  condEv (s50.1.getD 2 undefA)
  (onO (Locs.find s50.2.1 1) fun cs51 =>
  (M.ldc false 1 cs51 2).bind fun v52 =>
  (M.bin Tryz.prog .eql 22 (.tmp 90) (.const (.int .u32 0)) v52 (.int .u32 0)).bind fun v53 =>
  (guardEv (some (.val v53)) true
  (onO (Locs.find s50.2.1 1) fun cs54 =>
  (M.ldc false 1 cs54 1).bind fun v55 =>
  .ok (v55, s50.2.2))
  (.ok (undefA, s50.2.2))).bind fun q56 =>
  (guardEv (some (.val v53)) true
  ((Γ 66 [q56.1] q56.2).bind fun r57 =>
  .ok (r57.1, r57.2))
  (.ok (undefA, q56.2))).bind fun q58 =>
  (M.pick v53 q58.1 (.bool false)).bind fun v59 =>
  (guardEv (some (.val v59)) true
  (onO (Locs.find s50.2.1 1) fun cs60 =>
  (M.ldc false 1 cs60 4).bind fun v61 =>
  .ok (v61, q58.2))
  (.ok (undefA, q58.2))).bind fun q62 =>
  (guardEv (some (.val v59)) true
  (.ok ((.isl 1 [(.fn (.func 47) [] [])]), q62.2))
  (.ok (undefA, q62.2))).bind fun q63 =>
  (guardEv (some (.val v59)) true
  ((Γ 67 [q62.1, q63.1] q63.2).bind fun r64 =>
  .ok (r64.1, r64.2))
  (.ok (undefA, q63.2))).bind fun q65 =>
  (M.pick v59 q65.1 (.bool false)).bind fun v66 =>
  .ok (gc v66 H q65.2))
  ((M.bin Tryz.prog .eql 3 (.tmp 13) (.const (.int .i64 8)) (s50.1.getD 1 undefA) (.int .i64 8)).bind fun v67 =>
  condEv v67
  (onO (Locs.find s50.2.1 1) fun cs68 =>
  (M.ldc false 1 cs68 2).bind fun v69 =>
  (M.bin Tryz.prog .eql 22 (.tmp 106) (.const (.int .u32 0)) v69 (.int .u32 0)).bind fun v70 =>
  (guardEv (some (.val v70)) true
  (onO (Locs.find s50.2.1 1) fun cs71 =>
  (M.ldc false 1 cs71 1).bind fun v72 =>
  .ok (v72, s50.2.2))
  (.ok (undefA, s50.2.2))).bind fun q73 =>
  (guardEv (some (.val v70)) true
  ((Γ 66 [q73.1] q73.2).bind fun r74 =>
  .ok (r74.1, r74.2))
  (.ok (undefA, q73.2))).bind fun q75 =>
  (guardEv (some (.val v70)) true
  (.ok (q75.1, q75.2))
  (.ok (undefA, q75.2))).bind fun q76 =>
  (guardEv (some (.val q76.1)) false
  (onO (Locs.find s50.2.1 1) fun cs77 =>
  (M.ldc false 1 cs77 1).bind fun v78 =>
  .ok (v78, q76.2))
  (.ok (undefA, q76.2))).bind fun q79 =>
  (guardEv (some (.val q76.1)) false
  ((M.bin Tryz.prog .eql 9 (.tmp 114) (.const (.string ⟨⟨[103, 101, 116, 98, 121, 116, 101]⟩⟩)) q79.1 (.str [103, 101, 116, 98, 121, 116, 101])).bind fun v80 =>
  .ok (v80, q79.2))
  (.ok (undefA, q79.2))).bind fun q81 =>
  (guardEv (some (.val v70)) true
  ((M.pick q76.1 (.bool true) q81.1).bind fun v82 =>
  .ok (v82, q81.2))
  (.ok (undefA, q81.2))).bind fun q83 =>
  (guardEv (some (.val v70)) true
  (.ok (q83.1, q83.2))
  (.ok (undefA, q83.2))).bind fun q84 =>
  (guardEv (some (.val q84.1)) false
  (onO (Locs.find s50.2.1 1) fun cs85 =>
  (M.ldc false 1 cs85 1).bind fun v86 =>
  .ok (v86, q84.2))
  (.ok (undefA, q84.2))).bind fun q87 =>
  (guardEv (some (.val q84.1)) false
  ((M.bin Tryz.prog .eql 9 (.tmp 119) (.const (.string ⟨⟨[112, 117, 116, 98, 121, 116, 101]⟩⟩)) q87.1 (.str [112, 117, 116, 98, 121, 116, 101])).bind fun v88 =>
  .ok (v88, q87.2))
  (.ok (undefA, q87.2))).bind fun q89 =>
  (guardEv (some (.val v70)) true
  ((M.pick q84.1 (.bool true) q89.1).bind fun v90 =>
  .ok (v90, q89.2))
  (.ok (undefA, q89.2))).bind fun q91 =>
  (M.pick v70 q91.1 (.bool false)).bind fun v92 =>
  (guardEv (some (.val v92)) true
  (onO (Locs.find s50.2.1 1) fun cs93 =>
  (M.ldc false 1 cs93 4).bind fun v94 =>
  .ok (v94, q91.2))
  (.ok (undefA, q91.2))).bind fun q95 =>
  (guardEv (some (.val v92)) true
  ((Γ 29 [q95.1, (.fn (.func 47) [] [])] q95.2).bind fun r96 =>
  .ok (r96.1, r96.2))
  (.ok (undefA, q95.2))).bind fun q97 =>
  (M.pick v92 q97.1 (.bool false)).bind fun v98 =>
  .ok (gc v98 H q97.2))
  ((M.bin Tryz.prog .eql 3 (.tmp 13) (.const (.int .i64 9)) (s50.1.getD 1 undefA) (.int .i64 9)).bind fun v99 =>
  condEv v99
  (onO (Locs.find s50.2.1 1) fun cs100 =>
  (M.ldc false 1 cs100 2).bind fun v101 =>
  (M.bin Tryz.prog .eql 22 (.tmp 131) (.const (.int .u32 0)) v101 (.int .u32 0)).bind fun v102 =>
  (guardEv (some (.val v102)) true
  (onO (Locs.find s50.2.1 1) fun cs103 =>
  (M.ldc false 1 cs103 1).bind fun v104 =>
  .ok (v104, s50.2.2))
  (.ok (undefA, s50.2.2))).bind fun q105 =>
  (guardEv (some (.val v102)) true
  ((Γ 68 [(.str [45, 32, 126, 32, 33, 32, 38]), q105.1] q105.2).bind fun r106 =>
  .ok (r106.1, r106.2))
  (.ok (undefA, q105.2))).bind fun q107 =>
  (M.pick v102 q107.1 (.bool false)).bind fun v108 =>
  (guardEv (some (.val v108)) true
  (onO (Locs.find s50.2.1 1) fun cs109 =>
  (M.ldc false 1 cs109 4).bind fun v110 =>
  .ok (v110, q107.2))
  (.ok (undefA, q107.2))).bind fun q111 =>
  (guardEv (some (.val v108)) true
  (.ok ((.isl 1 [(.fn (.func 47) [] [])]), q111.2))
  (.ok (undefA, q111.2))).bind fun q112 =>
  (guardEv (some (.val v108)) true
  ((Γ 67 [q111.1, q112.1] q112.2).bind fun r113 =>
  .ok (r113.1, r113.2))
  (.ok (undefA, q112.2))).bind fun q114 =>
  (M.pick v108 q114.1 (.bool false)).bind fun v115 =>
  .ok (gc v115 H q114.2))
  ((M.bin Tryz.prog .eql 3 (.tmp 13) (.const (.int .i64 10)) (s50.1.getD 1 undefA) (.int .i64 10)).bind fun v116 =>
  condEv v116
  (onO (Locs.find s50.2.1 1) fun cs117 =>
  (M.ldc false 1 cs117 2).bind fun v118 =>
  (M.bin Tryz.prog .eql 22 (.tmp 147) (.const (.int .u32 0)) v118 (.int .u32 0)).bind fun v119 =>
  (guardEv (some (.val v119)) true
  (onO (Locs.find s50.2.1 1) fun cs120 =>
  (M.ldc false 1 cs120 1).bind fun v121 =>
  .ok (v121, s50.2.2))
  (.ok (undefA, s50.2.2))).bind fun q122 =>
  (guardEv (some (.val v119)) true
  ((Γ 68 [(.str [42, 32, 47, 32, 37, 32, 43, 32, 45, 32, 60, 60, 32, 62, 62, 32, 60, 32, 62, 32, 60, 61, 32, 62, 61, 32, 61, 61, 32, 33, 61, 32, 38, 32, 94, 32, 124]), q122.1] q122.2).bind fun r123 =>
  .ok (r123.1, r123.2))
  (.ok (undefA, q122.2))).bind fun q124 =>
  (M.pick v119 q124.1 (.bool false)).bind fun v125 =>
  (guardEv (some (.val v125)) true
  (onO (Locs.find s50.2.1 1) fun cs126 =>
  (M.ldc false 1 cs126 4).bind fun v127 =>
  .ok (v127, q124.2))
  (.ok (undefA, q124.2))).bind fun q128 =>
  (guardEv (some (.val v125)) true
  (.ok ((.isl 1 [(.fn (.func 47) [] []), (.fn (.func 47) [] [])]), q128.2))
  (.ok (undefA, q128.2))).bind fun q129 =>
  (guardEv (some (.val v125)) true
  ((Γ 67 [q128.1, q129.1] q129.2).bind fun r130 =>
  .ok (r130.1, r130.2))
  (.ok (undefA, q129.2))).bind fun q131 =>
  (M.pick v125 q131.1 (.bool false)).bind fun v132 =>
  .ok (gc v132 H q131.2))
  ((M.bin Tryz.prog .eql 3 (.tmp 13) (.const (.int .i64 11)) (s50.1.getD 1 undefA) (.int .i64 11)).bind fun v133 =>
  condEv v133
  (onO (Locs.find s50.2.1 1) fun cs134 =>
  (M.ldc false 1 cs134 2).bind fun v135 =>
  (M.bin Tryz.prog .eql 22 (.tmp 163) (.const (.int .u32 0)) v135 (.int .u32 0)).bind fun v136 =>
  (guardEv (some (.val v136)) true
  (onO (Locs.find s50.2.1 1) fun cs137 =>
  (M.ldc false 1 cs137 1).bind fun v138 =>
  .ok (v138, s50.2.2))
  (.ok (undefA, s50.2.2))).bind fun q139 =>
  (guardEv (some (.val v136)) true
  ((Γ 68 [(.str [38, 38, 32, 124, 124]), q139.1] q139.2).bind fun r140 =>
  .ok (r140.1, r140.2))
  (.ok (undefA, q139.2))).bind fun q141 =>
  (M.pick v136 q141.1 (.bool false)).bind fun v142 =>
  (guardEv (some (.val v142)) true
  (onO (Locs.find s50.2.1 1) fun cs143 =>
  (M.ldc false 1 cs143 4).bind fun v144 =>
  .ok (v144, q141.2))
  (.ok (undefA, q141.2))).bind fun q145 =>
  (guardEv (some (.val v142)) true
  (.ok ((.isl 1 [(.fn (.func 47) [] []), (.fn (.func 47) [] [])]), q145.2))
  (.ok (undefA, q145.2))).bind fun q146 =>
  (guardEv (some (.val v142)) true
  ((Γ 67 [q145.1, q146.1] q146.2).bind fun r147 =>
  .ok (r147.1, r147.2))
  (.ok (undefA, q146.2))).bind fun q148 =>
  (M.pick v142 q148.1 (.bool false)).bind fun v149 =>
  .ok (gc v149 H q148.2))
  ((M.bin Tryz.prog .eql 3 (.tmp 13) (.const (.int .i64 12)) (s50.1.getD 1 undefA) (.int .i64 12)).bind fun v150 =>
  condEv v150
  ((guardEv (some (.val (s50.1.getD 0 undefA))) true
  (onO (Locs.find s50.2.1 1) fun cs151 =>
  (M.ldc false 1 cs151 4).bind fun v152 =>
  .ok (v152, s50.2.2))
  (.ok (undefA, s50.2.2))).bind fun q153 =>
  (guardEv (some (.val (s50.1.getD 0 undefA))) true
  (.ok ((.isl 1 [(.fn (.func 47) [] []), (.fn (.func 47) [] []), (.fn (.func 47) [] [])]), q153.2))
  (.ok (undefA, q153.2))).bind fun q154 =>
  (guardEv (some (.val (s50.1.getD 0 undefA))) true
  ((Γ 67 [q153.1, q154.1] q154.2).bind fun r155 =>
  .ok (r155.1, r155.2))
  (.ok (undefA, q154.2))).bind fun q156 =>
  (M.pick (s50.1.getD 0 undefA) q156.1 (.bool false)).bind fun v157 =>
  .ok (gc v157 H q156.2))
  ((M.bin Tryz.prog .eql 3 (.tmp 13) (.const (.int .i64 13)) (s50.1.getD 1 undefA) (.int .i64 13)).bind fun v158 =>
  condEv v158
  (onO (Locs.find s50.2.1 1) fun cs159 =>
  (M.ldc false 1 cs159 2).bind fun v160 =>
  (M.bin Tryz.prog .eql 22 (.tmp 188) (.const (.int .u32 0)) v160 (.int .u32 0)).bind fun v161 =>
  (guardEv (some (.val v161)) true
  (onO (Locs.find s50.2.1 1) fun cs162 =>
  (M.ldc false 1 cs162 1).bind fun v163 =>
  .ok (v163, s50.2.2))
  (.ok (undefA, s50.2.2))).bind fun q164 =>
  (guardEv (some (.val v161)) true
  ((Γ 68 [(.str [61, 32, 43, 61, 32, 45, 61, 32, 42, 61, 32, 47, 61, 32, 37, 61, 32, 38, 61, 32, 124, 61, 32, 94, 61, 32, 60, 60, 61, 32, 62, 62, 61]), q164.1] q164.2).bind fun r165 =>
  .ok (r165.1, r165.2))
  (.ok (undefA, q164.2))).bind fun q166 =>
  (M.pick v161 q166.1 (.bool false)).bind fun v167 =>
  (guardEv (some (.val v167)) true
  (onO (Locs.find s50.2.1 1) fun cs168 =>
  (M.ldc false 1 cs168 4).bind fun v169 =>
  .ok (v169, q166.2))
  (.ok (undefA, q166.2))).bind fun q170 =>
  (guardEv (some (.val v167)) true
  (.ok ((.isl 1 [(.fn (.func 69) [] []), (.fn (.func 47) [] [])]), q170.2))
  (.ok (undefA, q170.2))).bind fun q171 =>
  (guardEv (some (.val v167)) true
  ((Γ 67 [q170.1, q171.1] q171.2).bind fun r172 =>
  .ok (r172.1, r172.2))
  (.ok (undefA, q171.2))).bind fun q173 =>
  (M.pick v167 q173.1 (.bool false)).bind fun v174 =>
  .ok (gc v174 H q173.2))
  ((M.bin Tryz.prog .eql 3 (.tmp 13) (.const (.int .i64 14)) (s50.1.getD 1 undefA) (.int .i64 14)).bind fun v175 =>
  condEv v175
  ((guardEv (some (.val (s50.1.getD 0 undefA))) true
  (onO (Locs.find s50.2.1 1) fun cs176 =>
  (M.ldc false 1 cs176 4).bind fun v177 =>
  .ok (v177, s50.2.2))
  (.ok (undefA, s50.2.2))).bind fun q178 =>
  (guardEv (some (.val (s50.1.getD 0 undefA))) true
  ((Γ 70 [(.int .i64 16)] (q178.2).start).bind fun r179 =>
  if r179.2.n = (q178.2).n ∧ r179.2.low = (q178.2).n then
  .ok (r179.1, q178.2)
  else .no)
  (.ok (undefA, q178.2))).bind fun q180 =>
  (guardEv (some (.val (s50.1.getD 0 undefA))) true
  ((M.fill (fun i => some (i * 1, 1)) [(.v .nilFunc), (.v .nilFunc)] [(0, q180.1), (1, (.fn (.func 47) [] []))]).bind fun cs181 =>
  .ok ((.isl 1 (chunks false 1 2 cs181)), q180.2))
  (.ok (undefA, q180.2))).bind fun q182 =>
  (guardEv (some (.val (s50.1.getD 0 undefA))) true
  ((Γ 67 [q178.1, q182.1] q182.2).bind fun r183 =>
  .ok (r183.1, r183.2))
  (.ok (undefA, q182.2))).bind fun q184 =>
  (M.pick (s50.1.getD 0 undefA) q184.1 (.bool false)).bind fun v185 =>
  .ok (gc v185 H q184.2))
  ((M.bin Tryz.prog .eql 3 (.tmp 13) (.const (.int .i64 15)) (s50.1.getD 1 undefA) (.int .i64 15)).bind fun v186 =>
  condEv v186
  ((guardEv (some (.val (s50.1.getD 0 undefA))) true
  (onO (Locs.find s50.2.1 1) fun cs187 =>
  (M.ldc false 1 cs187 4).bind fun v188 =>
  .ok (v188, s50.2.2))
  (.ok (undefA, s50.2.2))).bind fun q189 =>
  (guardEv (some (.val (s50.1.getD 0 undefA))) true
  (.ok ((.isl 1 [(.fn (.func 71) [] [])]), q189.2))
  (.ok (undefA, q189.2))).bind fun q190 =>
  (guardEv (some (.val (s50.1.getD 0 undefA))) true
  ((Γ 67 [q189.1, q190.1] q190.2).bind fun r191 =>
  .ok (r191.1, r191.2))
  (.ok (undefA, q190.2))).bind fun q192 =>
  (M.pick (s50.1.getD 0 undefA) q192.1 (.bool false)).bind fun v193 =>
  .ok (gc v193 H q192.2))
  (onO (Locs.find s50.2.1 1) fun cs194 =>
  (M.ldc false 1 cs194 0).bind fun v195 =>
  (M.bin Tryz.prog .eql 3 (.tmp 221) (.const (.int .i64 16)) v195 (.int .i64 16)).bind fun v196 =>
  (guardEv (some (.val v196)) true
  (onO (Locs.find s50.2.1 1) fun cs197 =>
  (M.ldc false 1 cs197 2).bind fun v198 =>
  .ok (v198, s50.2.2))
  (.ok (undefA, s50.2.2))).bind fun q199 =>
  (guardEv (some (.val v196)) true
  ((M.bin Tryz.prog .eql 22 (.tmp 225) (.const (.int .u32 0)) q199.1 (.int .u32 0)).bind fun v200 =>
  .ok (v200, q199.2))
  (.ok (undefA, q199.2))).bind fun q201 =>
  (M.pick v196 q201.1 (.bool false)).bind fun v202 =>
  (guardEv (some (.val v202)) true
  (onO (Locs.find s50.2.1 1) fun cs203 =>
  (M.ldc false 1 cs203 1).bind fun v204 =>
  .ok (v204, q201.2))
  (.ok (undefA, q201.2))).bind fun q205 =>
  (guardEv (some (.val v202)) true
  ((Γ 72 [q205.1] q205.2).bind fun r206 =>
  .ok (r206.1, r206.2))
  (.ok (undefA, q205.2))).bind fun q207 =>
  (M.pick v202 q207.1 (.bool false)).bind fun v208 =>
  (guardEv (some (.val v208)) true
  (onO (Locs.find s50.2.1 1) fun cs209 =>
  (M.ldc false 1 cs209 4).bind fun v210 =>
  .ok (v210, q207.2))
  (.ok (undefA, q207.2))).bind fun q211 =>
  (guardEv (some (.val v208)) true
  ((M.len false q211.1).bind fun v212 =>
  .ok (v212, q211.2))
  (.ok (undefA, q211.2))).bind fun q213 =>
  (guardEv (some (.val v208)) true
  ((M.bin Tryz.prog .eql 3 (.tmp 236) (.const (.int .i64 0)) q213.1 (.int .i64 0)).bind fun v214 =>
  .ok (v214, q213.2))
  (.ok (undefA, q213.2))).bind fun q215 =>
  (M.pick v208 q215.1 (.bool false)).bind fun v216 =>
  .ok (gc v216 H q215.2))))))))))) fun j217 =>
  condEv (.bool ((p0_0 == 6)))
  (j217 ([v4, (.int .i64 p0_0), (.bool ((p0_0 == 6)))], [(1, [(.int .i64 p0_0), (.str p0_1), (.int .u32 p0_2), (.bool p0_3), p0_4, (.int .i64 p0_5)])], q3.2))
  (j217 ([v4, (.int .i64 p0_0), (.bool ((p0_0 == 7)))], [(1, [(.int .i64 p0_0), (.str p0_1), (.int .u32 p0_2), (.bool p0_3), p0_4, (.int .i64 p0_5)])], q3.2)))))))
theorem u48 {glob : Nat → Option (List AV)} {prim : Nat → Option (List AV → Heap → Out (AV × Heap))} (hp : prim 48 = none) (Γ : CallsT) (lp : LoopT Ans) (p0_0 : Int) (p0_1 : (List UInt8)) (p0_2 : Int) (p0_3 : Bool) (p0_4 : AV) (p0_5 : Int) (H : Heap) : runF (X0 glob prim) lp Γ 48 [(.agg [(.int .i64 p0_0), (.str p0_1), (.int .u32 p0_2), (.bool p0_3), p0_4, (.int .i64 p0_5)])] H = g48 Γ lp p0_0 p0_1 p0_2 p0_3 p0_4 p0_5 H :=
  (runF_run hp (show trieF.get 48 = some Tryz.f48 by kernel_rfl) (by kernel_rfl) (by kernel_rfl)).trans (by kernel_rfl)
theorem c48 {glob : Nat → Option (List AV)} {prim : Nat → Option (List AV → Heap → Out (AV × Heap))} (hp : prim 48 = none) (p0_0 : Int) (p0_1 : (List UInt8)) (p0_2 : Int) (p0_3 : Bool) (p0_4 : AV) (p0_5 : Int) (H : Heap) {r : Ans} (h : g48 (callW (X0 glob prim)) loopW p0_0 p0_1 p0_2 p0_3 p0_4 p0_5 H = .ok r) : callW (X0 glob prim) 48 [(.agg [(.int .i64 p0_0), (.str p0_1), (.int .u32 p0_2), (.bool p0_3), p0_4, (.int .i64 p0_5)])] H = .ok r := callW_of ((u48 hp ..).trans h)
/- crucible/ast.statement -/
noncomputable def g49 (Γ : CallsT) (lp : LoopT Ans) (p0_0 : Int) (p0_1 : (List UInt8)) (p0_2 : Int) (p0_3 : Bool) (p0_4 : AV) (p0_5 : Int) (H : Heap) : Out Ans :=
  (guardEv (some (.val (.bool ((p0_0 == 47))))) false
  (.ok ((.int .i64 p0_0), H.start))
  (.ok (undefA, H.start))).bind fun q1 =>
  (guardEv (some (.val (.bool ((p0_0 == 47))))) false
  ((M.bin Tryz.prog .geq 3 (.tmp 8) (.const (.int .i64 48)) q1.1 (.int .i64 48)).bind fun v2 =>
  .ok (v2, q1.2))
  (.ok (undefA, q1.2))).bind fun q3 =>
  (guardEv (some (.val (.bool ((p0_0 == 47))))) false
  (.ok (q3.1, q3.2))
  (.ok (undefA, q3.2))).bind fun q4 =>
  (guardEv (some (.val q4.1)) true
  (.ok ((.int .i64 p0_0), q4.2))
  (.ok (undefA, q4.2))).bind fun q5 =>
  (guardEv (some (.val q4.1)) true
  ((M.bin Tryz.prog .leq 3 (.tmp 12) (.const (.int .i64 56)) q5.1 (.int .i64 56)).bind fun v6 =>
  .ok (v6, q5.2))
  (.ok (undefA, q5.2))).bind fun q7 =>
  (guardEv (some (.val (.bool ((p0_0 == 47))))) false
  ((M.pick q4.1 q7.1 (.bool false)).bind fun v8 =>
  .ok (v8, q7.2))
  (.ok (undefA, q7.2))).bind fun q9 =>
  (M.pick (.bool ((p0_0 == 47))) (.bool true) q9.1).bind fun v10 =>
  .ok (gc v10 H q9.2)
theorem u49 {glob : Nat → Option (List AV)} {prim : Nat → Option (List AV → Heap → Out (AV × Heap))} (hp : prim 49 = none) (Γ : CallsT) (lp : LoopT Ans) (p0_0 : Int) (p0_1 : (List UInt8)) (p0_2 : Int) (p0_3 : Bool) (p0_4 : AV) (p0_5 : Int) (H : Heap) : runF (X0 glob prim) lp Γ 49 [(.agg [(.int .i64 p0_0), (.str p0_1), (.int .u32 p0_2), (.bool p0_3), p0_4, (.int .i64 p0_5)])] H = g49 Γ lp p0_0 p0_1 p0_2 p0_3 p0_4 p0_5 H :=
  (runF_run hp (show trieF.get 49 = some Tryz.f49 by kernel_rfl) (by kernel_rfl) (by kernel_rfl)).trans (by kernel_rfl)
theorem c49 {glob : Nat → Option (List AV)} {prim : Nat → Option (List AV → Heap → Out (AV × Heap))} (hp : prim 49 = none) (p0_0 : Int) (p0_1 : (List UInt8)) (p0_2 : Int) (p0_3 : Bool) (p0_4 : AV) (p0_5 : Int) (H : Heap) {r : Ans} (h : g49 (callW (X0 glob prim)) loopW p0_0 p0_1 p0_2 p0_3 p0_4 p0_5 H = .ok r) : callW (X0 glob prim) 49 [(.agg [(.int .i64 p0_0), (.str p0_1), (.int .u32 p0_2), (.bool p0_3), p0_4, (.int .i64 p0_5)])] H = .ok r := callW_of ((u49 hp ..).trans h)
/- crucible/ast.statements -/
noncomputable def g50 (Γ : CallsT) (lp : LoopT Ans) (p0_0 : Int) (p0_1 : (List UInt8)) (p0_2 : Int) (p0_3 : Bool) (p0_4 : AV) (p0_5 : Int) (H : Heap) : Out Ans :=
  (guardEv (some (.val (.bool (!(p0_1 == []))))) false
  (.ok ((.int .u32 p0_2), H.start))
  (.ok (undefA, H.start))).bind fun q1 =>
  (guardEv (some (.val (.bool (!(p0_1 == []))))) false
  ((M.bin Tryz.prog .neq 22 (.tmp 9) (.const (.int .u32 0)) q1.1 (.int .u32 0)).bind fun v2 =>
  .ok (v2, q1.2))
  (.ok (undefA, q1.2))).bind fun q3 =>
  (M.pick (.bool (!(p0_1 == []))) (.bool true) q3.1).bind fun v4 =>
  condEv v4
  (.ok (gc (.bool false) H q3.2))
  (condEv (.bool ((p0_0 == 47)))
  ((Γ 29 [p0_4, (.fn (.func 73) [] [])] q3.2).bind fun r5 =>
  .ok (gc r5.1 H r5.2))
  (condEv (.bool ((p0_0 == 48)))
  ((Γ 67 [p0_4, (.isl 1 [(.fn (.func 47) [] [])])] q3.2).bind fun r6 =>
  .ok (gc r6.1 H r6.2))
  (condEv (.bool ((p0_0 == 49)))
  ((Γ 67 [p0_4, (.isl 1 [(.fn (.func 47) [] []), (.fn (.func 49) [] [])])] q3.2).bind fun r7 =>
  (guardEv (some (.val r7.1)) false
  (.ok (p0_4, r7.2))
  (.ok (undefA, r7.2))).bind fun q8 =>
  (guardEv (some (.val r7.1)) false
  (.ok ((.isl 1 [(.fn (.func 47) [] []), (.fn (.func 49) [] []), (.fn (.func 49) [] [])]), q8.2))
  (.ok (undefA, q8.2))).bind fun q9 =>
  (guardEv (some (.val r7.1)) false
  ((Γ 67 [q8.1, q9.1] q9.2).bind fun r10 =>
  .ok (r10.1, r10.2))
  (.ok (undefA, q9.2))).bind fun q11 =>
  (guardEv (some (.val r7.1)) false
  (.ok (q11.1, q11.2))
  (.ok (undefA, q11.2))).bind fun q12 =>
  (guardEv (some (.val q12.1)) true
  (.ok (p0_4, q12.2))
  (.ok (undefA, q12.2))).bind fun q13 =>
  (guardEv (some (.val q12.1)) true
  ((M.indexSl 6 q13.1 (.int .i64 1)).bind fun v14 =>
  .ok (v14, q13.2))
  (.ok (undefA, q13.2))).bind fun q15 =>
  (guardEv (some (.val q12.1)) true
  ((M.load true 6 q15.1 q15.2).bind fun v16 =>
  .ok (v16, q15.2))
  (.ok (undefA, q15.2))).bind fun q17 =>
  (guardEv (some (.val q12.1)) true
  ((Γ 74 [q17.1] q17.2).bind fun r18 =>
  .ok (r18.1, r18.2))
  (.ok (undefA, q17.2))).bind fun q19 =>
  (guardEv (some (.val q12.1)) true
  ((M.un .not q19.1).bind fun v20 =>
  .ok (v20, q19.2))
  (.ok (undefA, q19.2))).bind fun q21 =>
  (guardEv (some (.val r7.1)) false
  ((M.pick q12.1 q21.1 (.bool false)).bind fun v22 =>
  .ok (v22, q21.2))
  (.ok (undefA, q21.2))).bind fun q23 =>
  (M.pick r7.1 (.bool true) q23.1).bind fun v24 =>
  .ok (gc v24 H q23.2))
  (condEv (.bool ((p0_0 == 50)))
  ((Γ 67 [p0_4, (.isl 1 [(.fn (.func 47) [] []), (.fn (.func 49) [] [])])] q3.2).bind fun r25 =>
  .ok (gc r25.1 H r25.2))
  (condEv (.bool ((p0_0 == 51)))
  ((Γ 67 [p0_4, (.isl 1 [(.fn (.func 49) [] []), (.fn (.func 47) [] [])])] q3.2).bind fun r26 =>
  .ok (gc r26.1 H r26.2))
  (condEv (.bool ((p0_0 == 52)))
  ((Γ 67 [p0_4, (.isl 1 [(.fn (.func 75) [] []), (.fn (.func 75) [] []), (.fn (.func 75) [] []), (.fn (.func 49) [] [])])] q3.2).bind fun r27 =>
  .ok (gc r27.1 H r27.2))
  (condEv (.bool ((p0_0 == 55)))
  ((M.len false p0_4).bind fun v28 =>
  (M.bin Tryz.prog .leq 3 (.tmp 60) (.const (.int .i64 1)) v28 (.int .i64 1)).bind fun v29 =>
  (guardEv (some (.val v29)) true
  (.ok (p0_4, q3.2))
  (.ok (undefA, q3.2))).bind fun q30 =>
  (guardEv (some (.val v29)) true
  ((Γ 29 [q30.1, (.fn (.func 47) [] [])] q30.2).bind fun r31 =>
  .ok (r31.1, r31.2))
  (.ok (undefA, q30.2))).bind fun q32 =>
  (M.pick v29 q32.1 (.bool false)).bind fun v33 =>
  .ok (gc v33 H q32.2))
  ((M.len false p0_4).bind fun v34 =>
  (M.bin Tryz.prog .eql 3 (.tmp 67) (.const (.int .i64 0)) v34 (.int .i64 0)).bind fun v35 =>
  .ok (gc v35 H q3.2)))))))))
theorem u50 {glob : Nat → Option (List AV)} {prim : Nat → Option (List AV → Heap → Out (AV × Heap))} (hp : prim 50 = none) (Γ : CallsT) (lp : LoopT Ans) (p0_0 : Int) (p0_1 : (List UInt8)) (p0_2 : Int) (p0_3 : Bool) (p0_4 : AV) (p0_5 : Int) (H : Heap) : runF (X0 glob prim) lp Γ 50 [(.agg [(.int .i64 p0_0), (.str p0_1), (.int .u32 p0_2), (.bool p0_3), p0_4, (.int .i64 p0_5)])] H = g50 Γ lp p0_0 p0_1 p0_2 p0_3 p0_4 p0_5 H :=
  (runF_run hp (show trieF.get 50 = some Tryz.f50 by kernel_rfl) (by kernel_rfl) (by kernel_rfl)).trans (by kernel_rfl)
theorem c50 {glob : Nat → Option (List AV)} {prim : Nat → Option (List AV → Heap → Out (AV × Heap))} (hp : prim 50 = none) (p0_0 : Int) (p0_1 : (List UInt8)) (p0_2 : Int) (p0_3 : Bool) (p0_4 : AV) (p0_5 : Int) (H : Heap) {r : Ans} (h : g50 (callW (X0 glob prim)) loopW p0_0 p0_1 p0_2 p0_3 p0_4 p0_5 H = .ok r) : callW (X0 glob prim) 50 [(.agg [(.int .i64 p0_0), (.str p0_1), (.int .u32 p0_2), (.bool p0_3), p0_4, (.int .i64 p0_5)])] H = .ok r := callW_of ((u50 hp ..).trans h)
/- crucible/ast.declarations -/
noncomputable def g51 (Γ : CallsT) (lp : LoopT Ans) (p0_0 : Int) (p0_1 : (List UInt8)) (p0_2 : Int) (p0_3 : Bool) (p0_4 : AV) (p0_5 : Int) (H : Heap) : Out Ans :=
  (Γ 66 [(.str p0_1)] H.start).bind fun r1 =>
  condEv (.bool ((p0_0 == 40)))
  ((guardEv (some (.val (.bool (p0_1 == [])))) true
  (.ok ((.int .u32 p0_2), r1.2))
  (.ok (undefA, r1.2))).bind fun q2 =>
  (guardEv (some (.val (.bool (p0_1 == [])))) true
  ((M.bin Tryz.prog .eql 22 (.tmp 19) (.const (.int .u32 0)) q2.1 (.int .u32 0)).bind fun v3 =>
  .ok (v3, q2.2))
  (.ok (undefA, q2.2))).bind fun q4 =>
  (M.pick (.bool (p0_1 == [])) q4.1 (.bool false)).bind fun v5 =>
  (guardEv (some (.val v5)) true
  (.ok (p0_4, q4.2))
  (.ok (undefA, q4.2))).bind fun q6 =>
  (guardEv (some (.val v5)) true
  ((Γ 29 [q6.1, (.fn (.func 76) [] [])] q6.2).bind fun r7 =>
  .ok (r7.1, r7.2))
  (.ok (undefA, q6.2))).bind fun q8 =>
  (M.pick v5 q8.1 (.bool false)).bind fun v9 =>
  .ok (gc v9 H q8.2))
  (condEv (.bool ((p0_0 == 41)))
  ((guardEv (some (.val r1.1)) true
  (.ok ((.int .u32 p0_2), r1.2))
  (.ok (undefA, r1.2))).bind fun q10 =>
  (guardEv (some (.val r1.1)) true
  ((M.bin Tryz.prog .eql 22 (.tmp 31) (.const (.int .u32 0)) q10.1 (.int .u32 0)).bind fun v11 =>
  .ok (v11, q10.2))
  (.ok (undefA, q10.2))).bind fun q12 =>
  (M.pick r1.1 q12.1 (.bool false)).bind fun v13 =>
  (guardEv (some (.val v13)) true
  (.ok (p0_4, q12.2))
  (.ok (undefA, q12.2))).bind fun q14 =>
  (guardEv (some (.val v13)) true
  ((Γ 29 [q14.1, (.fn (.func 77) [] [])] q14.2).bind fun r15 =>
  .ok (r15.1, r15.2))
  (.ok (undefA, q14.2))).bind fun q16 =>
  (M.pick v13 q16.1 (.bool false)).bind fun v17 =>
  .ok (gc v17 H q16.2))
  (condEv (.bool ((p0_0 == 42)))
  ((guardEv (some (.val (.bool (p0_1 == [])))) true
  (.ok ((.int .u32 p0_2), r1.2))
  (.ok (undefA, r1.2))).bind fun q18 =>
  (guardEv (some (.val (.bool (p0_1 == [])))) true
  ((M.bin Tryz.prog .eql 22 (.tmp 45) (.const (.int .u32 0)) q18.1 (.int .u32 0)).bind fun v19 =>
  .ok (v19, q18.2))
  (.ok (undefA, q18.2))).bind fun q20 =>
  (M.pick (.bool (p0_1 == [])) q20.1 (.bool false)).bind fun v21 =>
  (guardEv (some (.val v21)) true
  (.ok (p0_4, q20.2))
  (.ok (undefA, q20.2))).bind fun q22 =>
  (guardEv (some (.val v21)) true
  ((M.len false q22.1).bind fun v23 =>
  .ok (v23, q22.2))
  (.ok (undefA, q22.2))).bind fun q24 =>
  (guardEv (some (.val v21)) true
  ((M.bin Tryz.prog .geq 3 (.tmp 50) (.const (.int .i64 2)) q24.1 (.int .i64 2)).bind fun v25 =>
  .ok (v25, q24.2))
  (.ok (undefA, q24.2))).bind fun q26 =>
  (M.pick v21 q26.1 (.bool false)).bind fun v27 =>
  (guardEv (some (.val v27)) true
  (.ok (p0_4, q26.2))
  (.ok (undefA, q26.2))).bind fun q28 =>
  (guardEv (some (.val v27)) true
  ((M.indexSl 6 q28.1 (.int .i64 0)).bind fun v29 =>
  .ok (v29, q28.2))
  (.ok (undefA, q28.2))).bind fun q30 =>
  (guardEv (some (.val v27)) true
  ((M.fieldAddr 0 q30.1).bind fun v31 =>
  .ok (v31, q30.2))
  (.ok (undefA, q30.2))).bind fun q32 =>
  (guardEv (some (.val v27)) true
  ((M.load false 1 q32.1 q32.2).bind fun v33 =>
  .ok (v33, q32.2))
  (.ok (undefA, q32.2))).bind fun q34 =>
  (guardEv (some (.val v27)) true
  ((M.bin Tryz.prog .eql 3 (.tmp 57) (.const (.int .i64 16)) q34.1 (.int .i64 16)).bind fun v35 =>
  .ok (v35, q34.2))
  (.ok (undefA, q34.2))).bind fun q36 =>
  (M.pick v27 q36.1 (.bool false)).bind fun v37 =>
  (guardEv (some (.val v37)) true
  (.ok (p0_4, q36.2))
  (.ok (undefA, q36.2))).bind fun q38 =>
  (guardEv (some (.val v37)) true
  ((M.sliceSl 6 q38.1 (some (.int .i64 1)) none).bind fun v39 =>
  .ok (v39, q38.2))
  (.ok (undefA, q38.2))).bind fun q40 =>
  (guardEv (some (.val v37)) true
  ((Γ 70 [(.int .i64 43)] q40.2).bind fun r41 =>
  .ok (r41.1, r41.2))
  (.ok (undefA, q40.2))).bind fun q42 =>
  (guardEv (some (.val v37)) true
  ((Γ 29 [q40.1, q42.1] q42.2).bind fun r43 =>
  .ok (r43.1, r43.2))
  (.ok (undefA, q42.2))).bind fun q44 =>
  (M.pick v37 q44.1 (.bool false)).bind fun v45 =>
  .ok (gc v45 H q44.2))
  (condEv (.bool ((p0_0 == 43)))
  ((guardEv (some (.val r1.1)) true
  (.ok ((.int .u32 p0_2), r1.2))
  (.ok (undefA, r1.2))).bind fun q46 =>
  (guardEv (some (.val r1.1)) true
  ((M.bin Tryz.prog .eql 22 (.tmp 71) (.const (.int .u32 0)) q46.1 (.int .u32 0)).bind fun v47 =>
  .ok (v47, q46.2))
  (.ok (undefA, q46.2))).bind fun q48 =>
  (M.pick r1.1 q48.1 (.bool false)).bind fun v49 =>
  (guardEv (some (.val v49)) true
  (.ok ((.agg [(.int .i64 p0_0), (.str p0_1), (.int .u32 p0_2), (.bool p0_3), p0_4, (.int .i64 p0_5)]), q48.2))
  (.ok (undefA, q48.2))).bind fun q50 =>
  (guardEv (some (.val v49)) true
  ((Γ 78 [q50.1] q50.2).bind fun r51 =>
  .ok (r51.1, r51.2))
  (.ok (undefA, q50.2))).bind fun q52 =>
  (M.pick v49 q52.1 (.bool false)).bind fun v53 =>
  .ok (gc v53 H q52.2))
  (condEv (.bool ((p0_0 == 44)))
  ((guardEv (some (.val (.bool (p0_1 == [])))) true
  (.ok ((.int .u32 p0_2), r1.2))
  (.ok (undefA, r1.2))).bind fun q54 =>
  (guardEv (some (.val (.bool (p0_1 == [])))) true
  ((M.bin Tryz.prog .eql 22 (.tmp 85) (.const (.int .u32 0)) q54.1 (.int .u32 0)).bind fun v55 =>
  .ok (v55, q54.2))
  (.ok (undefA, q54.2))).bind fun q56 =>
  (M.pick (.bool (p0_1 == [])) q56.1 (.bool false)).bind fun v57 =>
  (guardEv (some (.val v57)) true
  (.ok (p0_4, q56.2))
  (.ok (undefA, q56.2))).bind fun q58 =>
  (guardEv (some (.val v57)) true
  ((M.len false q58.1).bind fun v59 =>
  .ok (v59, q58.2))
  (.ok (undefA, q58.2))).bind fun q60 =>
  (guardEv (some (.val v57)) true
  ((M.bin Tryz.prog .gtr 3 (.tmp 90) (.const (.int .i64 0)) q60.1 (.int .i64 0)).bind fun v61 =>
  .ok (v61, q60.2))
  (.ok (undefA, q60.2))).bind fun q62 =>
  (M.pick v57 q62.1 (.bool false)).bind fun v63 =>
  (guardEv (some (.val v63)) true
  (.ok (p0_4, q62.2))
  (.ok (undefA, q62.2))).bind fun q64 =>
  (guardEv (some (.val v63)) true
  ((Γ 29 [q64.1, (.fn (.func 47) [] [])] q64.2).bind fun r65 =>
  .ok (r65.1, r65.2))
  (.ok (undefA, q64.2))).bind fun q66 =>
  (M.pick v63 q66.1 (.bool false)).bind fun v67 =>
  .ok (gc v67 H q66.2))
  (condEv (.bool ((p0_0 == 45)))
  ((guardEv (some (.val r1.1)) true
  (.ok ((.int .u32 p0_2), r1.2))
  (.ok (undefA, r1.2))).bind fun q68 =>
  (guardEv (some (.val r1.1)) true
  ((M.bin Tryz.prog .eql 22 (.tmp 102) (.const (.int .u32 0)) q68.1 (.int .u32 0)).bind fun v69 =>
  .ok (v69, q68.2))
  (.ok (undefA, q68.2))).bind fun q70 =>
  (M.pick r1.1 q70.1 (.bool false)).bind fun v71 =>
  (guardEv (some (.val v71)) true
  (.ok (p0_4, q70.2))
  (.ok (undefA, q70.2))).bind fun q72 =>
  (guardEv (some (.val v71)) true
  ((Γ 79 [q72.1] q72.2).bind fun r73 =>
  .ok (r73.1, r73.2))
  (.ok (undefA, q72.2))).bind fun q74 =>
  (M.pick v71 q74.1 (.bool false)).bind fun v75 =>
  .ok (gc v75 H q74.2))
  ((guardEv (some (.val (.bool ((p0_0 == 46))))) true
  (.ok (r1.1, r1.2))
  (.ok (undefA, r1.2))).bind fun q76 =>
  (M.pick (.bool ((p0_0 == 46))) q76.1 (.bool false)).bind fun v77 =>
  (guardEv (some (.val v77)) true
  (.ok ((.int .u32 p0_2), q76.2))
  (.ok (undefA, q76.2))).bind fun q78 =>
  (guardEv (some (.val v77)) true
  ((M.bin Tryz.prog .leq 22 (.tmp 117) (.const (.int .u32 1)) q78.1 (.int .u32 1)).bind fun v79 =>
  .ok (v79, q78.2))
  (.ok (undefA, q78.2))).bind fun q80 =>
  (M.pick v77 q80.1 (.bool false)).bind fun v81 =>
  (guardEv (some (.val v81)) true
  (.ok ((.bool p0_3), q80.2))
  (.ok (undefA, q80.2))).bind fun q82 =>
  (guardEv (some (.val v81)) true
  (.ok (q82.1, q82.2))
  (.ok (undefA, q82.2))).bind fun q83 =>
  (guardEv (some (.val q83.1)) true
  (.ok ((.int .u32 p0_2), q83.2))
  (.ok (undefA, q83.2))).bind fun q84 =>
  (guardEv (some (.val q83.1)) true
  ((M.bin Tryz.prog .eql 22 (.tmp 125) (.const (.int .u32 1)) q84.1 (.int .u32 1)).bind fun v85 =>
  .ok (v85, q84.2))
  (.ok (undefA, q84.2))).bind fun q86 =>
  (guardEv (some (.val v81)) true
  ((M.pick q83.1 q86.1 (.bool false)).bind fun v87 =>
  .ok (v87, q86.2))
  (.ok (undefA, q86.2))).bind fun q88 =>
  (guardEv (some (.val v81)) true
  ((M.un .not q88.1).bind fun v89 =>
  .ok (v89, q88.2))
  (.ok (undefA, q88.2))).bind fun q90 =>
  (M.pick v81 q90.1 (.bool false)).bind fun v91 =>
  (guardEv (some (.val v91)) true
  (.ok (p0_4, q90.2))
  (.ok (undefA, q90.2))).bind fun q92 =>
  (guardEv (some (.val v91)) true
  ((Γ 70 [(.int .i64 16)] q92.2).bind fun r93 =>
  .ok (r93.1, r93.2))
  (.ok (undefA, q92.2))).bind fun q94 =>
  (guardEv (some (.val v91)) true
  ((M.fill (fun i => some (i * 1, 1)) [(.v .nilFunc)] [(0, q94.1)]).bind fun cs95 =>
  .ok ((.isl 1 (chunks false 1 1 cs95)), q94.2))
  (.ok (undefA, q94.2))).bind fun q96 =>
  (guardEv (some (.val v91)) true
  ((Γ 67 [q92.1, q96.1] q96.2).bind fun r97 =>
  .ok (r97.1, r97.2))
  (.ok (undefA, q96.2))).bind fun q98 =>
  (M.pick v91 q98.1 (.bool false)).bind fun v99 =>
  .ok (gc v99 H q98.2)))))))
theorem u51 {glob : Nat → Option (List AV)} {prim : Nat → Option (List AV → Heap → Out (AV × Heap))} (hp : prim 51 = none) (Γ : CallsT) (lp : LoopT Ans) (p0_0 : Int) (p0_1 : (List UInt8)) (p0_2 : Int) (p0_3 : Bool) (p0_4 : AV) (p0_5 : Int) (H : Heap) : runF (X0 glob prim) lp Γ 51 [(.agg [(.int .i64 p0_0), (.str p0_1), (.int .u32 p0_2), (.bool p0_3), p0_4, (.int .i64 p0_5)])] H = g51 Γ lp p0_0 p0_1 p0_2 p0_3 p0_4 p0_5 H :=
  (runF_run hp (show trieF.get 51 = some Tryz.f51 by kernel_rfl) (by kernel_rfl) (by kernel_rfl)).trans (by kernel_rfl)
theorem c51 {glob : Nat → Option (List AV)} {prim : Nat → Option (List AV → Heap → Out (AV × Heap))} (hp : prim 51 = none) (p0_0 : Int) (p0_1 : (List UInt8)) (p0_2 : Int) (p0_3 : Bool) (p0_4 : AV) (p0_5 : Int) (H : Heap) {r : Ans} (h : g51 (callW (X0 glob prim)) loopW p0_0 p0_1 p0_2 p0_3 p0_4 p0_5 H = .ok r) : callW (X0 glob prim) 51 [(.agg [(.int .i64 p0_0), (.str p0_1), (.int .u32 p0_2), (.bool p0_3), p0_4, (.int .i64 p0_5)])] H = .ok r := callW_of ((u51 hp ..).trans h)
/- slices.ContainsFunc[[]crucible/api.Node,crucible/api.Node] -/
noncomputable def g52 (Γ : CallsT) (lp : LoopT Ans) (p0 : AV) (p1 : AV) (H : Heap) : Out Ans :=
  (Γ 80 [p0, p1] H.start).bind fun r1 =>
  (M.bin Tryz.prog .geq 3 (.tmp 7) (.const (.int .i64 0)) r1.1 (.int .i64 0)).bind fun v2 =>
  .ok (gc v2 H r1.2)
theorem u52 {glob : Nat → Option (List AV)} {prim : Nat → Option (List AV → Heap → Out (AV × Heap))} (hp : prim 52 = none) (Γ : CallsT) (lp : LoopT Ans) (p0 : AV) (p1 : AV) (H : Heap) : runF (X0 glob prim) lp Γ 52 [p0, p1] H = g52 Γ lp p0 p1 H :=
  (runF_run hp (show trieF.get 52 = some Tryz.f52 by kernel_rfl) (by kernel_rfl) (by kernel_rfl)).trans (by kernel_rfl)
theorem c52 {glob : Nat → Option (List AV)} {prim : Nat → Option (List AV → Heap → Out (AV × Heap))} (hp : prim 52 = none) (p0 : AV) (p1 : AV) (H : Heap) {r : Ans} (h : g52 (callW (X0 glob prim)) loopW p0 p1 H = .ok r) : callW (X0 glob prim) 52 [p0, p1] H = .ok r := callW_of ((u52 hp ..).trans h)
/- crucible/ast.every$1 -/
noncomputable def g53 (Γ : CallsT) (lp : LoopT Ans) (p0_0 : Int) (p0_1 : (List UInt8)) (p0_2 : Int) (p0_3 : Bool) (p0_4 : AV) (p0_5 : Int) (p1 : AV) (H : Heap) : Out Ans :=
  (M.load false 1 p1 H.start).bind fun v1 =>
  callV Γ v1 [(.agg [(.int .i64 p0_0), (.str p0_1), (.int .u32 p0_2), (.bool p0_3), p0_4, (.int .i64 p0_5)])] H.start fun v2 h3 =>
  (M.un .not v2).bind fun v4 =>
  .ok (gc v4 H h3)
theorem u53 {glob : Nat → Option (List AV)} {prim : Nat → Option (List AV → Heap → Out (AV × Heap))} (hp : prim 53 = none) (Γ : CallsT) (lp : LoopT Ans) (p0_0 : Int) (p0_1 : (List UInt8)) (p0_2 : Int) (p0_3 : Bool) (p0_4 : AV) (p0_5 : Int) (p1 : AV) (H : Heap) : runF (X0 glob prim) lp Γ 53 [(.agg [(.int .i64 p0_0), (.str p0_1), (.int .u32 p0_2), (.bool p0_3), p0_4, (.int .i64 p0_5)]), p1] H = g53 Γ lp p0_0 p0_1 p0_2 p0_3 p0_4 p0_5 p1 H :=
  (runF_run hp (show trieF.get 53 = some Tryz.f53 by kernel_rfl) (by kernel_rfl) (by kernel_rfl)).trans (by kernel_rfl)
theorem c53 {glob : Nat → Option (List AV)} {prim : Nat → Option (List AV → Heap → Out (AV × Heap))} (hp : prim 53 = none) (p0_0 : Int) (p0_1 : (List UInt8)) (p0_2 : Int) (p0_3 : Bool) (p0_4 : AV) (p0_5 : Int) (p1 : AV) (H : Heap) {r : Ans} (h : g53 (callW (X0 glob prim)) loopW p0_0 p0_1 p0_2 p0_3 p0_4 p0_5 p1 H = .ok r) : callW (X0 glob prim) 53 [(.agg [(.int .i64 p0_0), (.str p0_1), (.int .u32 p0_2), (.bool p0_3), p0_4, (.int .i64 p0_5)]), p1] H = .ok r := callW_of ((u53 hp ..).trans h)
/- (*crucible/ast.printer).at -/
noncomputable def g54 (Γ : CallsT) (lp : LoopT Ans) (p0 : AV) (p1_0 : Int) (p1_1 : (List UInt8)) (p1_2 : Int) (p1_3 : Bool) (p1_4 : AV) (p1_5 : Int) (p2 : Int) (H : Heap) : Out Ans :=
  (Γ 81 [(.agg [(.int .i64 p1_0), (.str p1_1), (.int .u32 p1_2), (.bool p1_3), p1_4, (.int .i64 p1_5)])] H.start).bind fun r1 =>
  (M.bin Tryz.prog .lss 3 (.tmp 7) (.tmp 8) r1.1 (.int .i64 p2)).bind fun v2 =>
  condEv v2
  ((Γ 31 [p0, (.isl 1 [(.str [40])])] r1.2).bind fun r3 =>
  (Γ 82 [p0, (.agg [(.int .i64 p1_0), (.str p1_1), (.int .u32 p1_2), (.bool p1_3), p1_4, (.int .i64 p1_5)])] r3.2).bind fun r4 =>
  (Γ 31 [p0, (.isl 1 [(.str [41])])] r4.2).bind fun r5 =>
  .ok (gc (.tup []) H r5.2))
  ((Γ 82 [p0, (.agg [(.int .i64 p1_0), (.str p1_1), (.int .u32 p1_2), (.bool p1_3), p1_4, (.int .i64 p1_5)])] r1.2).bind fun r6 =>
  .ok (gc (.tup []) H r6.2))
theorem u54 {glob : Nat → Option (List AV)} {prim : Nat → Option (List AV → Heap → Out (AV × Heap))} (hp : prim 54 = none) (Γ : CallsT) (lp : LoopT Ans) (p0 : AV) (p1_0 : Int) (p1_1 : (List UInt8)) (p1_2 : Int) (p1_3 : Bool) (p1_4 : AV) (p1_5 : Int) (p2 : Int) (H : Heap) : runF (X0 glob prim) lp Γ 54 [p0, (.agg [(.int .i64 p1_0), (.str p1_1), (.int .u32 p1_2), (.bool p1_3), p1_4, (.int .i64 p1_5)]), (.int .i64 p2)] H = g54 Γ lp p0 p1_0 p1_1 p1_2 p1_3 p1_4 p1_5 p2 H :=
  (runF_run hp (show trieF.get 54 = some Tryz.f54 by kernel_rfl) (by kernel_rfl) (by kernel_rfl)).trans (by kernel_rfl)
theorem c54 {glob : Nat → Option (List AV)} {prim : Nat → Option (List AV → Heap → Out (AV × Heap))} (hp : prim 54 = none) (p0 : AV) (p1_0 : Int) (p1_1 : (List UInt8)) (p1_2 : Int) (p1_3 : Bool) (p1_4 : AV) (p1_5 : Int) (p2 : Int) (H : Heap) {r : Ans} (h : g54 (callW (X0 glob prim)) loopW p0 p1_0 p1_1 p1_2 p1_3 p1_4 p1_5 p2 H = .ok r) : callW (X0 glob prim) 54 [p0, (.agg [(.int .i64 p1_0), (.str p1_1), (.int .u32 p1_2), (.bool p1_3), p1_4, (.int .i64 p1_5)]), (.int .i64 p2)] H = .ok r := callW_of ((u54 hp ..).trans h)
/- (*crucible/ast.printer).list -/
noncomputable def g55_l1 (Γ : CallsT) (lp : LoopT Ans) (H : Heap) : LS → (LS → Out Ans) → Out Ans := fun s2 a3 =>
  (M.bin Tryz.prog .lss 3 (.tmp 8) (.tmp 7) (s2.1.getD 3 undefA) (s2.1.getD 2 undefA)).bind fun v4 =>
  condEv v4
  ((M.indexSl 6 (s2.1.getD 1 undefA) (s2.1.getD 3 undefA)).bind fun v5 =>
  (M.load true 6 v5 s2.2.2).bind fun v6 =>
  onO (Locs.find (Locs.put s2.2.1 5 [(.int .i64 0), (.str []), (.int .u32 0), (.bool false), nilSlice, (.int .i64 0)]) 5) fun cs7 =>
  (M.stc 6 cs7 0 v6).bind fun cs8 =>
  jn (fun s9 =>
  onO (Locs.find s9.2.1 5) fun cs10 =>
  (M.ldc true 6 cs10 0).bind fun v11 =>
  (Γ 54 [(s9.1.getD 0 undefA), v11, (.int .i64 0)] s9.2.2).bind fun r12 =>
  (M.bin Tryz.prog .add 3 (.tmp 8) (.const (.int .i64 1)) (s9.1.getD 3 undefA) (.int .i64 1)).bind fun v13 =>
  a3 ([(s9.1.getD 0 undefA), (s9.1.getD 1 undefA), (s9.1.getD 2 undefA), v13], s9.2.1, r12.2)) fun j14 =>
  (M.bin Tryz.prog .gtr 3 (.tmp 13) (.const (.int .i64 0)) (s2.1.getD 3 undefA) (.int .i64 0)).bind fun v15 =>
  condEv v15
  ((Γ 31 [(s2.1.getD 0 undefA), (.isl 1 [(.str [44, 32])])] s2.2.2).bind fun r16 =>
  j14 ([(s2.1.getD 0 undefA), (s2.1.getD 1 undefA), (s2.1.getD 2 undefA), (s2.1.getD 3 undefA)], (Locs.put (Locs.put s2.2.1 5 [(.int .i64 0), (.str []), (.int .u32 0), (.bool false), nilSlice, (.int .i64 0)]) 5 cs8), r16.2))
  (j14 ([(s2.1.getD 0 undefA), (s2.1.getD 1 undefA), (s2.1.getD 2 undefA), (s2.1.getD 3 undefA)], (Locs.put (Locs.put s2.2.1 5 [(.int .i64 0), (.str []), (.int .u32 0), (.bool false), nilSlice, (.int .i64 0)]) 5 cs8), s2.2.2)))
  (.ok (gc (.tup []) H s2.2.2))
noncomputable def g55 (Γ : CallsT) (lp : LoopT Ans) (p0 : AV) (p1 : AV) (H : Heap) : Out Ans :=
  (M.len false p1).bind fun v1 =>
  lp (g55_l1 Γ lp H) ([p0, p1, v1, (.int .i64 0)], [], H.start)
theorem u55 {glob : Nat → Option (List AV)} {prim : Nat → Option (List AV → Heap → Out (AV × Heap))} (hp : prim 55 = none) (Γ : CallsT) (lp : LoopT Ans) (p0 : AV) (p1 : AV) (H : Heap) : runF (X0 glob prim) lp Γ 55 [p0, p1] H = g55 Γ lp p0 p1 H :=
  (runF_run hp (show trieF.get 55 = some Tryz.f55 by kernel_rfl) (by kernel_rfl) (by kernel_rfl)).trans (by kernel_rfl)
theorem c55 {glob : Nat → Option (List AV)} {prim : Nat → Option (List AV → Heap → Out (AV × Heap))} (hp : prim 55 = none) (p0 : AV) (p1 : AV) (H : Heap) {r : Ans} (h : g55 (callW (X0 glob prim)) loopW p0 p1 H = .ok r) : callW (X0 glob prim) 55 [p0, p1] H = .ok r := callW_of ((u55 hp ..).trans h)
end Go.Proofs.YtnhblghplohonaaGreatDoor.Ab
