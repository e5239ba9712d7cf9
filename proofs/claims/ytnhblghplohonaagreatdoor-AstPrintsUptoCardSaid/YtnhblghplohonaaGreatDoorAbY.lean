/- Functions of the program as plain functions over the abstract machine's values. (Printed by a program of this session: gen.py.) -/
import Derived.Test.YtnhblghplohonaaGreatDoorAbY1
set_option linter.unusedSimpArgs false
set_option linter.unusedVariables false
namespace Go.Proofs.YtnhblghplohonaaGreatDoor.Ab
open Go
/- crucible/crucibleref07.Named -/
noncomputable def g57_l2 (Γ : CallsT) (lp : LoopT Ans) (H : Heap) : LS → (LS → Out Ans) → Out Ans := fun s1 a2 =>
  (M.len true (s1.1.getD 0 undefA)).bind fun v3 =>
  (M.bin Tryz.prog .lss 3 (.tmp 4) (.tmp 6) (s1.1.getD 1 undefA) v3).bind fun v4 =>
  condEv v4
  ((M.indexStr (s1.1.getD 0 undefA) (s1.1.getD 1 undefA)).bind fun v5 =>
  (Γ 89 [v5] s1.2.2).bind fun r6 =>
  (M.un .not r6.1).bind fun v7 =>
  (guardEv (some (.val v7)) true
  (.ok ((s1.1.getD 1 undefA), r6.2))
  (.ok (undefA, r6.2))).bind fun q8 =>
  (guardEv (some (.val v7)) true
  ((M.bin Tryz.prog .eql 3 (.tmp 16) (.const (.int .i64 0)) q8.1 (.int .i64 0)).bind fun v9 =>
  .ok (v9, q8.2))
  (.ok (undefA, q8.2))).bind fun q10 =>
  (guardEv (some (.val v7)) true
  (.ok (q10.1, q10.2))
  (.ok (undefA, q10.2))).bind fun q11 =>
  (guardEv (some (.val q11.1)) false
  (.ok ((s1.1.getD 0 undefA), q11.2))
  (.ok (undefA, q11.2))).bind fun q12 =>
  (guardEv (some (.val q11.1)) false
  (.ok ((s1.1.getD 1 undefA), q12.2))
  (.ok (undefA, q12.2))).bind fun q13 =>
  (guardEv (some (.val q11.1)) false
  ((M.indexStr q12.1 q13.1).bind fun v14 =>
  .ok (v14, q13.2))
  (.ok (undefA, q13.2))).bind fun q15 =>
  (guardEv (some (.val q11.1)) false
  ((Γ 90 [q15.1] q15.2).bind fun r16 =>
  .ok (r16.1, r16.2))
  (.ok (undefA, q15.2))).bind fun q17 =>
  (guardEv (some (.val q11.1)) false
  ((M.un .not q17.1).bind fun v18 =>
  .ok (v18, q17.2))
  (.ok (undefA, q17.2))).bind fun q19 =>
  (guardEv (some (.val v7)) true
  ((M.pick q11.1 (.bool true) q19.1).bind fun v20 =>
  .ok (v20, q19.2))
  (.ok (undefA, q19.2))).bind fun q21 =>
  (M.pick v7 q21.1 (.bool false)).bind fun v22 =>
  condEv v22
  (.ok (gc (.bool false) H q21.2))
  ((M.bin Tryz.prog .add 3 (.tmp 8) (.const (.int .i64 1)) (s1.1.getD 1 undefA) (.int .i64 1)).bind fun v23 =>
  a2 ([(s1.1.getD 0 undefA), v23], s1.2.1, q21.2)))
  ((M.bin Tryz.prog .neq 9 (.tmp 26) (.const (.string ⟨⟨[]⟩⟩)) (s1.1.getD 0 undefA) (.str [])).bind fun v24 =>
  .ok (gc v24 H s1.2.2))
noncomputable def g57 (Γ : CallsT) (lp : LoopT Ans) (p0 : (List UInt8)) (H : Heap) : Out Ans :=
  lp (g57_l2 Γ lp H) ([(.str p0), (.int .i64 0)], [], H.start)
theorem u57 {glob : Nat → Option (List AV)} {prim : Nat → Option (List AV → Heap → Out (AV × Heap))} (hp : prim 57 = none) (Γ : CallsT) (lp : LoopT Ans) (p0 : (List UInt8)) (H : Heap) : runF (X0 glob prim) lp Γ 57 [(.str p0)] H = g57 Γ lp p0 H :=
  (runF_run hp (show trieF.get 57 = some Tryz.f57 by kernel_rfl) (by kernel_rfl) (by kernel_rfl)).trans (by kernel_rfl)
theorem c57 {glob : Nat → Option (List AV)} {prim : Nat → Option (List AV → Heap → Out (AV × Heap))} (hp : prim 57 = none) (p0 : (List UInt8)) (H : Heap) {r : Ans} (h : g57 (callW (X0 glob prim)) loopW p0 H = .ok r) : callW (X0 glob prim) 57 [(.str p0)] H = .ok r := callW_of ((u57 hp ..).trans h)
/- crucible/crucibleref07.Reserved -/
noncomputable def g58_l4 (Γ : CallsT) (lp : LoopT Ans) (H : Heap) : LS → (LS → Out Ans) → Out Ans := fun s3 a4 =>
  (M.len true (s3.1.getD 0 undefA)).bind fun v5 =>
  (M.bin Tryz.prog .add 3 (.tmp 7) (.tmp 9) (s3.1.getD 1 undefA) v5).bind fun v6 =>
  (M.bin Tryz.prog .add 3 (.tmp 10) (.const (.int .i64 2)) v6 (.int .i64 2)).bind fun v7 =>
  (M.bin Tryz.prog .leq 3 (.tmp 11) (.const (.int .i64 93)) v7 (.int .i64 93)).bind fun v8 =>
  condEv v8
  ((M.indexStr (.str [32, 98, 114, 101, 97, 107, 32, 99, 104, 97, 114, 32, 99, 111, 110, 116, 105, 110, 117, 101, 32, 100, 111, 32, 101, 108, 115, 101, 32, 102, 111, 114, 32, 103, 101, 116, 98, 121, 116, 101, 32, 105, 102, 32, 105, 110, 116, 32, 112, 117, 116, 98, 121, 116, 101, 32, 114, 101, 116, 117, 114, 110, 32, 115, 105, 122, 101, 111, 102, 32, 115, 116, 114, 117, 99, 116, 32, 117, 105, 110, 116, 32, 118, 111, 105, 100, 32, 119, 104, 105, 108, 101, 32]) (s3.1.getD 1 undefA)).bind fun v9 =>
  (M.bin Tryz.prog .eql 5 (.tmp 16) (.const (.int .u8 32)) v9 (.int .u8 32)).bind fun v10 =>
  (guardEv (some (.val v10)) true
  (.ok ((s3.1.getD 1 undefA), s3.2.2))
  (.ok (undefA, s3.2.2))).bind fun q11 =>
  (guardEv (some (.val v10)) true
  ((M.bin Tryz.prog .add 3 (.tmp 19) (.const (.int .i64 1)) q11.1 (.int .i64 1)).bind fun v12 =>
  .ok (v12, q11.2))
  (.ok (undefA, q11.2))).bind fun q13 =>
  (guardEv (some (.val v10)) true
  (.ok ((s3.1.getD 1 undefA), q13.2))
  (.ok (undefA, q13.2))).bind fun q14 =>
  (guardEv (some (.val v10)) true
  ((M.bin Tryz.prog .add 3 (.tmp 21) (.const (.int .i64 1)) q14.1 (.int .i64 1)).bind fun v15 =>
  .ok (v15, q14.2))
  (.ok (undefA, q14.2))).bind fun q16 =>
  (guardEv (some (.val v10)) true
  (.ok ((s3.1.getD 0 undefA), q16.2))
  (.ok (undefA, q16.2))).bind fun q17 =>
  (guardEv (some (.val v10)) true
  ((M.len true q17.1).bind fun v18 =>
  .ok (v18, q17.2))
  (.ok (undefA, q17.2))).bind fun q19 =>
  (guardEv (some (.val v10)) true
  ((M.bin Tryz.prog .add 3 (.tmp 22) (.tmp 24) q16.1 q19.1).bind fun v20 =>
  .ok (v20, q19.2))
  (.ok (undefA, q19.2))).bind fun q21 =>
  (guardEv (some (.val v10)) true
  ((M.sliceStr (.str [32, 98, 114, 101, 97, 107, 32, 99, 104, 97, 114, 32, 99, 111, 110, 116, 105, 110, 117, 101, 32, 100, 111, 32, 101, 108, 115, 101, 32, 102, 111, 114, 32, 103, 101, 116, 98, 121, 116, 101, 32, 105, 102, 32, 105, 110, 116, 32, 112, 117, 116, 98, 121, 116, 101, 32, 114, 101, 116, 117, 114, 110, 32, 115, 105, 122, 101, 111, 102, 32, 115, 116, 114, 117, 99, 116, 32, 117, 105, 110, 116, 32, 118, 111, 105, 100, 32, 119, 104, 105, 108, 101, 32]) (some q13.1) (some q21.1)).bind fun v22 =>
  .ok (v22, q21.2))
  (.ok (undefA, q21.2))).bind fun q23 =>
  (guardEv (some (.val v10)) true
  (.ok ((s3.1.getD 0 undefA), q23.2))
  (.ok (undefA, q23.2))).bind fun q24 =>
  (guardEv (some (.val v10)) true
  ((M.bin Tryz.prog .eql 9 (.tmp 26) (.tmp 27) q23.1 q24.1).bind fun v25 =>
  .ok (v25, q24.2))
  (.ok (undefA, q24.2))).bind fun q26 =>
  (M.pick v10 q26.1 (.bool false)).bind fun v27 =>
  (guardEv (some (.val v27)) true
  (.ok ((s3.1.getD 1 undefA), q26.2))
  (.ok (undefA, q26.2))).bind fun q28 =>
  (guardEv (some (.val v27)) true
  ((M.bin Tryz.prog .add 3 (.tmp 31) (.const (.int .i64 1)) q28.1 (.int .i64 1)).bind fun v29 =>
  .ok (v29, q28.2))
  (.ok (undefA, q28.2))).bind fun q30 =>
  (guardEv (some (.val v27)) true
  (.ok ((s3.1.getD 0 undefA), q30.2))
  (.ok (undefA, q30.2))).bind fun q31 =>
  (guardEv (some (.val v27)) true
  ((M.len true q31.1).bind fun v32 =>
  .ok (v32, q31.2))
  (.ok (undefA, q31.2))).bind fun q33 =>
  (guardEv (some (.val v27)) true
  ((M.bin Tryz.prog .add 3 (.tmp 32) (.tmp 34) q30.1 q33.1).bind fun v34 =>
  .ok (v34, q33.2))
  (.ok (undefA, q33.2))).bind fun q35 =>
  (guardEv (some (.val v27)) true
  ((M.indexStr (.str [32, 98, 114, 101, 97, 107, 32, 99, 104, 97, 114, 32, 99, 111, 110, 116, 105, 110, 117, 101, 32, 100, 111, 32, 101, 108, 115, 101, 32, 102, 111, 114, 32, 103, 101, 116, 98, 121, 116, 101, 32, 105, 102, 32, 105, 110, 116, 32, 112, 117, 116, 98, 121, 116, 101, 32, 114, 101, 116, 117, 114, 110, 32, 115, 105, 122, 101, 111, 102, 32, 115, 116, 114, 117, 99, 116, 32, 117, 105, 110, 116, 32, 118, 111, 105, 100, 32, 119, 104, 105, 108, 101, 32]) q35.1).bind fun v36 =>
  .ok (v36, q35.2))
  (.ok (undefA, q35.2))).bind fun q37 =>
  (guardEv (some (.val v27)) true
  ((M.bin Tryz.prog .eql 5 (.tmp 36) (.const (.int .u8 32)) q37.1 (.int .u8 32)).bind fun v38 =>
  .ok (v38, q37.2))
  (.ok (undefA, q37.2))).bind fun q39 =>
  (M.pick v27 q39.1 (.bool false)).bind fun v40 =>
  condEv v40
  (.ok (gc (.bool true) H q39.2))
  ((M.bin Tryz.prog .add 3 (.tmp 13) (.const (.int .i64 1)) (s3.1.getD 1 undefA) (.int .i64 1)).bind fun v41 =>
  a4 ([(s3.1.getD 0 undefA), v41], s3.2.1, q39.2)))
  (.ok (gc (.bool false) H s3.2.2))
noncomputable def g58 (Γ : CallsT) (lp : LoopT Ans) (p0 : (List UInt8)) (H : Heap) : Out Ans :=
  (Γ 57 [(.str p0)] H.start).bind fun r1 =>
  (M.un .not r1.1).bind fun v2 =>
  condEv v2
  (.ok (gc (.bool false) H r1.2))
  (lp (g58_l4 Γ lp H) ([(.str p0), (.int .i64 0)], [], r1.2))
theorem u58 {glob : Nat → Option (List AV)} {prim : Nat → Option (List AV → Heap → Out (AV × Heap))} (hp : prim 58 = none) (Γ : CallsT) (lp : LoopT Ans) (p0 : (List UInt8)) (H : Heap) : runF (X0 glob prim) lp Γ 58 [(.str p0)] H = g58 Γ lp p0 H :=
  (runF_run hp (show trieF.get 58 = some Tryz.f58 by kernel_rfl) (by kernel_rfl) (by kernel_rfl)).trans (by kernel_rfl)
theorem c58 {glob : Nat → Option (List AV)} {prim : Nat → Option (List AV → Heap → Out (AV × Heap))} (hp : prim 58 = none) (p0 : (List UInt8)) (H : Heap) {r : Ans} (h : g58 (callW (X0 glob prim)) loopW p0 H = .ok r) : callW (X0 glob prim) 58 [(.str p0)] H = .ok r := callW_of ((u58 hp ..).trans h)
/- crucible/crucibleref08.none -/
noncomputable def g59 (Γ : CallsT) (lp : LoopT Ans) (p0_0 : Int) (p0_1 : (List UInt8)) (p0_2 : Int) (p0_3 : Bool) (p0_4 : AV) (p0_5 : Int) (H : Heap) : Out Ans :=
  (guardEv (some (.val (.bool ((p0_0 == 56))))) true
  (.ok ((.agg [(.int .i64 p0_0), (.str p0_1), (.int .u32 p0_2), (.bool p0_3), p0_4, (.int .i64 p0_5)]), H.start))
  (.ok (undefA, H.start))).bind fun q1 =>
  (guardEv (some (.val (.bool ((p0_0 == 56))))) true
  ((Γ 23 [q1.1, (.bool false), (.bool false), (.bool false)] q1.2).bind fun r2 =>
  .ok (r2.1, r2.2))
  (.ok (undefA, q1.2))).bind fun q3 =>
  (M.pick (.bool ((p0_0 == 56))) q3.1 (.bool false)).bind fun v4 =>
  (guardEv (some (.val v4)) true
  (.ok (p0_4, q3.2))
  (.ok (undefA, q3.2))).bind fun q5 =>
  (guardEv (some (.val v4)) true
  ((M.len false q5.1).bind fun v6 =>
  .ok (v6, q5.2))
  (.ok (undefA, q5.2))).bind fun q7 =>
  (guardEv (some (.val v4)) true
  ((M.bin Tryz.prog .eql 3 (.tmp 13) (.const (.int .i64 0)) q7.1 (.int .i64 0)).bind fun v8 =>
  .ok (v8, q7.2))
  (.ok (undefA, q7.2))).bind fun q9 =>
  (M.pick v4 q9.1 (.bool false)).bind fun v10 =>
  .ok (gc v10 H q9.2)
theorem u59 {glob : Nat → Option (List AV)} {prim : Nat → Option (List AV → Heap → Out (AV × Heap))} (hp : prim 59 = none) (Γ : CallsT) (lp : LoopT Ans) (p0_0 : Int) (p0_1 : (List UInt8)) (p0_2 : Int) (p0_3 : Bool) (p0_4 : AV) (p0_5 : Int) (H : Heap) : runF (X0 glob prim) lp Γ 59 [(.agg [(.int .i64 p0_0), (.str p0_1), (.int .u32 p0_2), (.bool p0_3), p0_4, (.int .i64 p0_5)])] H = g59 Γ lp p0_0 p0_1 p0_2 p0_3 p0_4 p0_5 H :=
  (runF_run hp (show trieF.get 59 = some Tryz.f59 by kernel_rfl) (by kernel_rfl) (by kernel_rfl)).trans (by kernel_rfl)
theorem c59 {glob : Nat → Option (List AV)} {prim : Nat → Option (List AV → Heap → Out (AV × Heap))} (hp : prim 59 = none) (p0_0 : Int) (p0_1 : (List UInt8)) (p0_2 : Int) (p0_3 : Bool) (p0_4 : AV) (p0_5 : Int) (H : Heap) {r : Ans} (h : g59 (callW (X0 glob prim)) loopW p0_0 p0_1 p0_2 p0_3 p0_4 p0_5 H = .ok r) : callW (X0 glob prim) 59 [(.agg [(.int .i64 p0_0), (.str p0_1), (.int .u32 p0_2), (.bool p0_3), p0_4, (.int .i64 p0_5)])] H = .ok r := callW_of ((u59 hp ..).trans h)
/- crucible/crucibleref08.expr -/
noncomputable def g60 (Γ : CallsT) (lp : LoopT Ans) (p0_0 : Int) (p0_1 : (List UInt8)) (p0_2 : Int) (p0_3 : Bool) (p0_4 : AV) (p0_5 : Int) (H : Heap) : Out Ans :=
  (guardEv (some (.val (.bool (decide (p0_0 ≥ 1))))) true
  (.ok ((.int .i64 p0_0), H.start))
  (.ok (undefA, H.start))).bind fun q1 =>
  (guardEv (some (.val (.bool (decide (p0_0 ≥ 1))))) true
  ((M.bin Tryz.prog .leq 3 (.tmp 8) (.const (.int .i64 15)) q1.1 (.int .i64 15)).bind fun v2 =>
  .ok (v2, q1.2))
  (.ok (undefA, q1.2))).bind fun q3 =>
  (M.pick (.bool (decide (p0_0 ≥ 1))) q3.1 (.bool false)).bind fun v4 =>
  (guardEv (some (.val v4)) true
  (.ok ((.agg [(.int .i64 p0_0), (.str p0_1), (.int .u32 p0_2), (.bool p0_3), p0_4, (.int .i64 p0_5)]), q3.2))
  (.ok (undefA, q3.2))).bind fun q5 =>
  (guardEv (some (.val v4)) true
  ((Γ 91 [q5.1] q5.2).bind fun r6 =>
  .ok (r6.1, r6.2))
  (.ok (undefA, q5.2))).bind fun q7 =>
  (M.pick v4 q7.1 (.bool false)).bind fun v8 =>
  .ok (gc v8 H q7.2)
theorem u60 {glob : Nat → Option (List AV)} {prim : Nat → Option (List AV → Heap → Out (AV × Heap))} (hp : prim 60 = none) (Γ : CallsT) (lp : LoopT Ans) (p0_0 : Int) (p0_1 : (List UInt8)) (p0_2 : Int) (p0_3 : Bool) (p0_4 : AV) (p0_5 : Int) (H : Heap) : runF (X0 glob prim) lp Γ 60 [(.agg [(.int .i64 p0_0), (.str p0_1), (.int .u32 p0_2), (.bool p0_3), p0_4, (.int .i64 p0_5)])] H = g60 Γ lp p0_0 p0_1 p0_2 p0_3 p0_4 p0_5 H :=
  (runF_run hp (show trieF.get 60 = some Tryz.f60 by kernel_rfl) (by kernel_rfl) (by kernel_rfl)).trans (by kernel_rfl)
theorem c60 {glob : Nat → Option (List AV)} {prim : Nat → Option (List AV → Heap → Out (AV × Heap))} (hp : prim 60 = none) (p0_0 : Int) (p0_1 : (List UInt8)) (p0_2 : Int) (p0_3 : Bool) (p0_4 : AV) (p0_5 : Int) (H : Heap) {r : Ans} (h : g60 (callW (X0 glob prim)) loopW p0_0 p0_1 p0_2 p0_3 p0_4 p0_5 H = .ok r) : callW (X0 glob prim) 60 [(.agg [(.int .i64 p0_0), (.str p0_1), (.int .u32 p0_2), (.bool p0_3), p0_4, (.int .i64 p0_5)])] H = .ok r := callW_of ((u60 hp ..).trans h)
/- crucible/crucibleref08.exprs -/
noncomputable def g61_l4 (Γ : CallsT) (lp : LoopT Ans) (H : Heap) : LS → (LS → Out Ans) → Out Ans := fun s8 a9 =>
  onO (Locs.find s8.2.1 2) fun cs10 =>
  (M.ldc false 1 cs10 4).bind fun v11 =>
  (M.len false v11).bind fun v12 =>
  (M.bin Tryz.prog .lss 3 (.tmp 15) (.tmp 18) (s8.1.getD 0 undefA) v12).bind fun v13 =>
  condEv v13
  (onO (Locs.find s8.2.1 2) fun cs14 =>
  (M.ldc false 1 cs14 4).bind fun v15 =>
  (M.indexSl 6 v15 (s8.1.getD 0 undefA)).bind fun v16 =>
  (M.load true 6 v16 s8.2.2).bind fun v17 =>
  (Γ 60 [v17] s8.2.2).bind fun r18 =>
  (M.un .not r18.1).bind fun v19 =>
  condEv v19
  (.ok (gc (.bool false) H r18.2))
  ((M.bin Tryz.prog .add 3 (.tmp 20) (.const (.int .i64 1)) (s8.1.getD 0 undefA) (.int .i64 1)).bind fun v20 =>
  a9 ([v20], s8.2.1, r18.2)))
  (.ok (gc (.bool true) H s8.2.2))
noncomputable def g61 (Γ : CallsT) (lp : LoopT Ans) (p0_0 : Int) (p0_1 : (List UInt8)) (p0_2 : Int) (p0_3 : Bool) (p0_4 : AV) (p0_5 : Int) (p1 : Int) (H : Heap) : Out Ans :=
  (guardEv (some (.val (.bool (decide (p1 ≥ 0))))) true
  (.ok (p0_4, H.start))
  (.ok (undefA, H.start))).bind fun q1 =>
  (guardEv (some (.val (.bool (decide (p1 ≥ 0))))) true
  ((M.len false q1.1).bind fun v2 =>
  .ok (v2, q1.2))
  (.ok (undefA, q1.2))).bind fun q3 =>
  (guardEv (some (.val (.bool (decide (p1 ≥ 0))))) true
  (.ok ((.int .i64 p1), q3.2))
  (.ok (undefA, q3.2))).bind fun q4 =>
  (guardEv (some (.val (.bool (decide (p1 ≥ 0))))) true
  ((M.bin Tryz.prog .neq 3 (.tmp 11) (.tmp 12) q3.1 q4.1).bind fun v5 =>
  .ok (v5, q4.2))
  (.ok (undefA, q4.2))).bind fun q6 =>
  (M.pick (.bool (decide (p1 ≥ 0))) q6.1 (.bool false)).bind fun v7 =>
  condEv v7
  (.ok (gc (.bool false) H q6.2))
  (lp (g61_l4 Γ lp H) ([(.int .i64 0)], [(2, [(.int .i64 p0_0), (.str p0_1), (.int .u32 p0_2), (.bool p0_3), p0_4, (.int .i64 p0_5)])], q6.2))
theorem u61 {glob : Nat → Option (List AV)} {prim : Nat → Option (List AV → Heap → Out (AV × Heap))} (hp : prim 61 = none) (Γ : CallsT) (lp : LoopT Ans) (p0_0 : Int) (p0_1 : (List UInt8)) (p0_2 : Int) (p0_3 : Bool) (p0_4 : AV) (p0_5 : Int) (p1 : Int) (H : Heap) : runF (X0 glob prim) lp Γ 61 [(.agg [(.int .i64 p0_0), (.str p0_1), (.int .u32 p0_2), (.bool p0_3), p0_4, (.int .i64 p0_5)]), (.int .i64 p1)] H = g61 Γ lp p0_0 p0_1 p0_2 p0_3 p0_4 p0_5 p1 H :=
  (runF_run hp (show trieF.get 61 = some Tryz.f61 by kernel_rfl) (by kernel_rfl) (by kernel_rfl)).trans (by kernel_rfl)
theorem c61 {glob : Nat → Option (List AV)} {prim : Nat → Option (List AV → Heap → Out (AV × Heap))} (hp : prim 61 = none) (p0_0 : Int) (p0_1 : (List UInt8)) (p0_2 : Int) (p0_3 : Bool) (p0_4 : AV) (p0_5 : Int) (p1 : Int) (H : Heap) {r : Ans} (h : g61 (callW (X0 glob prim)) loopW p0_0 p0_1 p0_2 p0_3 p0_4 p0_5 p1 H = .ok r) : callW (X0 glob prim) 61 [(.agg [(.int .i64 p0_0), (.str p0_1), (.int .u32 p0_2), (.bool p0_3), p0_4, (.int .i64 p0_5)]), (.int .i64 p1)] H = .ok r := callW_of ((u61 hp ..).trans h)
/- crucible/crucibleref08.statement -/
noncomputable def g62_l19 (Γ : CallsT) (lp : LoopT Ans) (H : Heap) : LS → (LS → Out Ans) → Out Ans := fun s94 a95 =>
  (M.bin Tryz.prog .lss 3 (.tmp 106) (.const (.int .i64 3)) (s94.1.getD 0 undefA) (.int .i64 3)).bind fun v96 =>
  condEv v96
  (onO (Locs.find s94.2.1 1) fun cs97 =>
  (M.ldc false 1 cs97 4).bind fun v98 =>
  (M.indexSl 6 v98 (s94.1.getD 0 undefA)).bind fun v99 =>
  (M.load true 6 v99 s94.2.2).bind fun v100 =>
  (Γ 59 [v100] s94.2.2).bind fun r101 =>
  (M.un .not r101.1).bind fun v102 =>
  (guardEv (some (.val v102)) true
  (onO (Locs.find s94.2.1 1) fun cs103 =>
  (M.ldc false 1 cs103 4).bind fun v104 =>
  .ok (v104, r101.2))
  (.ok (undefA, r101.2))).bind fun q105 =>
  (guardEv (some (.val v102)) true
  (.ok ((s94.1.getD 0 undefA), q105.2))
  (.ok (undefA, q105.2))).bind fun q106 =>
  (guardEv (some (.val v102)) true
  ((M.indexSl 6 q105.1 q106.1).bind fun v107 =>
  .ok (v107, q106.2))
  (.ok (undefA, q106.2))).bind fun q108 =>
  (guardEv (some (.val v102)) true
  ((M.load true 6 q108.1 q108.2).bind fun v109 =>
  .ok (v109, q108.2))
  (.ok (undefA, q108.2))).bind fun q110 =>
  (guardEv (some (.val v102)) true
  ((Γ 60 [q110.1] q110.2).bind fun r111 =>
  .ok (r111.1, r111.2))
  (.ok (undefA, q110.2))).bind fun q112 =>
  (guardEv (some (.val v102)) true
  ((M.un .not q112.1).bind fun v113 =>
  .ok (v113, q112.2))
  (.ok (undefA, q112.2))).bind fun q114 =>
  (M.pick v102 q114.1 (.bool false)).bind fun v115 =>
  condEv v115
  (.ok (gc (.bool false) H q114.2))
  ((M.bin Tryz.prog .add 3 (.tmp 108) (.const (.int .i64 1)) (s94.1.getD 0 undefA) (.int .i64 1)).bind fun v116 =>
  a95 ([v116], s94.2.1, q114.2)))
  (.ok (gc (.bool true) H s94.2.2))
noncomputable def g62 (Γ : CallsT) (lp : LoopT Ans) (p0_0 : Int) (p0_1 : (List UInt8)) (p0_2 : Int) (p0_3 : Bool) (p0_4 : AV) (p0_5 : Int) (H : Heap) : Out Ans :=
  (M.len false p0_4).bind fun v1 =>
  (Γ 23 [(.agg [(.int .i64 p0_0), (.str p0_1), (.int .u32 p0_2), (.bool p0_3), p0_4, (.int .i64 p0_5)]), (.bool false), (.bool false), (.bool false)] H.start).bind fun r2 =>
  (M.un .not r2.1).bind fun v3 =>
  condEv v3
  (.ok (gc (.bool false) H r2.2))
  (condEv (.bool ((p0_0 == 47)))
  ((Γ 40 [(.agg [(.int .i64 p0_0), (.str p0_1), (.int .u32 p0_2), (.bool p0_3), p0_4, (.int .i64 p0_5)])] r2.2).bind fun r4 =>
  .ok (gc r4.1 H r4.2))
  (condEv (.bool ((p0_0 == 48)))
  ((Γ 61 [(.agg [(.int .i64 p0_0), (.str p0_1), (.int .u32 p0_2), (.bool p0_3), p0_4, (.int .i64 p0_5)]), (.int .i64 1)] r2.2).bind fun r5 =>
  .ok (gc r5.1 H r5.2))
  (condEv (.bool ((p0_0 == 49)))
  ((M.bin Tryz.prog .eql 3 (.tmp 23) (.const (.int .i64 2)) v1 (.int .i64 2)).bind fun v6 =>
  (guardEv (some (.val v6)) false
  (.ok (v1, r2.2))
  (.ok (undefA, r2.2))).bind fun q7 =>
  (guardEv (some (.val v6)) false
  ((M.bin Tryz.prog .eql 3 (.tmp 26) (.const (.int .i64 3)) q7.1 (.int .i64 3)).bind fun v8 =>
  .ok (v8, q7.2))
  (.ok (undefA, q7.2))).bind fun q9 =>
  (guardEv (some (.val v6)) false
  (.ok (q9.1, q9.2))
  (.ok (undefA, q9.2))).bind fun q10 =>
  (guardEv (some (.val q10.1)) true
  (.ok (p0_4, q10.2))
  (.ok (undefA, q10.2))).bind fun q11 =>
  (guardEv (some (.val q10.1)) true
  ((M.indexSl 6 q11.1 (.int .i64 2)).bind fun v12 =>
  .ok (v12, q11.2))
  (.ok (undefA, q11.2))).bind fun q13 =>
  (guardEv (some (.val q10.1)) true
  ((M.load true 6 q13.1 q13.2).bind fun v14 =>
  .ok (v14, q13.2))
  (.ok (undefA, q13.2))).bind fun q15 =>
  (guardEv (some (.val q10.1)) true
  ((Γ 62 [q15.1] q15.2).bind fun r16 =>
  .ok (r16.1, r16.2))
  (.ok (undefA, q15.2))).bind fun q17 =>
  (guardEv (some (.val v6)) false
  ((M.pick q10.1 q17.1 (.bool false)).bind fun v18 =>
  .ok (v18, q17.2))
  (.ok (undefA, q17.2))).bind fun q19 =>
  (guardEv (some (.val v6)) false
  (.ok (q19.1, q19.2))
  (.ok (undefA, q19.2))).bind fun q20 =>
  (guardEv (some (.val q20.1)) true
  (.ok (p0_4, q20.2))
  (.ok (undefA, q20.2))).bind fun q21 =>
  (guardEv (some (.val q20.1)) true
  ((M.indexSl 6 q21.1 (.int .i64 1)).bind fun v22 =>
  .ok (v22, q21.2))
  (.ok (undefA, q21.2))).bind fun q23 =>
  (guardEv (some (.val q20.1)) true
  ((M.load true 6 q23.1 q23.2).bind fun v24 =>
  .ok (v24, q23.2))
  (.ok (undefA, q23.2))).bind fun q25 =>
  (guardEv (some (.val q20.1)) true
  ((Γ 92 [q25.1] q25.2).bind fun r26 =>
  .ok (r26.1, r26.2))
  (.ok (undefA, q25.2))).bind fun q27 =>
  (guardEv (some (.val q20.1)) true
  ((M.un .not q27.1).bind fun v28 =>
  .ok (v28, q27.2))
  (.ok (undefA, q27.2))).bind fun q29 =>
  (guardEv (some (.val v6)) false
  ((M.pick q20.1 q29.1 (.bool false)).bind fun v30 =>
  .ok (v30, q29.2))
  (.ok (undefA, q29.2))).bind fun q31 =>
  (M.pick v6 (.bool true) q31.1).bind fun v32 =>
  (guardEv (some (.val v32)) true
  (.ok (p0_4, q31.2))
  (.ok (undefA, q31.2))).bind fun q33 =>
  (guardEv (some (.val v32)) true
  ((M.indexSl 6 q33.1 (.int .i64 0)).bind fun v34 =>
  .ok (v34, q33.2))
  (.ok (undefA, q33.2))).bind fun q35 =>
  (guardEv (some (.val v32)) true
  ((M.load true 6 q35.1 q35.2).bind fun v36 =>
  .ok (v36, q35.2))
  (.ok (undefA, q35.2))).bind fun q37 =>
  (guardEv (some (.val v32)) true
  ((Γ 60 [q37.1] q37.2).bind fun r38 =>
  .ok (r38.1, r38.2))
  (.ok (undefA, q37.2))).bind fun q39 =>
  (M.pick v32 q39.1 (.bool false)).bind fun v40 =>
  (guardEv (some (.val v40)) true
  (.ok (p0_4, q39.2))
  (.ok (undefA, q39.2))).bind fun q41 =>
  (guardEv (some (.val v40)) true
  ((M.indexSl 6 q41.1 (.int .i64 1)).bind fun v42 =>
  .ok (v42, q41.2))
  (.ok (undefA, q41.2))).bind fun q43 =>
  (guardEv (some (.val v40)) true
  ((M.load true 6 q43.1 q43.2).bind fun v44 =>
  .ok (v44, q43.2))
  (.ok (undefA, q43.2))).bind fun q45 =>
  (guardEv (some (.val v40)) true
  ((Γ 62 [q45.1] q45.2).bind fun r46 =>
  .ok (r46.1, r46.2))
  (.ok (undefA, q45.2))).bind fun q47 =>
  (M.pick v40 q47.1 (.bool false)).bind fun v48 =>
  .ok (gc v48 H q47.2))
  (condEv (.bool ((p0_0 == 50)))
  ((M.bin Tryz.prog .eql 3 (.tmp 60) (.const (.int .i64 2)) v1 (.int .i64 2)).bind fun v49 =>
  (guardEv (some (.val v49)) true
  (.ok (p0_4, r2.2))
  (.ok (undefA, r2.2))).bind fun q50 =>
  (guardEv (some (.val v49)) true
  ((M.indexSl 6 q50.1 (.int .i64 0)).bind fun v51 =>
  .ok (v51, q50.2))
  (.ok (undefA, q50.2))).bind fun q52 =>
  (guardEv (some (.val v49)) true
  ((M.load true 6 q52.1 q52.2).bind fun v53 =>
  .ok (v53, q52.2))
  (.ok (undefA, q52.2))).bind fun q54 =>
  (guardEv (some (.val v49)) true
  ((Γ 60 [q54.1] q54.2).bind fun r55 =>
  .ok (r55.1, r55.2))
  (.ok (undefA, q54.2))).bind fun q56 =>
  (M.pick v49 q56.1 (.bool false)).bind fun v57 =>
  (guardEv (some (.val v57)) true
  (.ok (p0_4, q56.2))
  (.ok (undefA, q56.2))).bind fun q58 =>
  (guardEv (some (.val v57)) true
  ((M.indexSl 6 q58.1 (.int .i64 1)).bind fun v59 =>
  .ok (v59, q58.2))
  (.ok (undefA, q58.2))).bind fun q60 =>
  (guardEv (some (.val v57)) true
  ((M.load true 6 q60.1 q60.2).bind fun v61 =>
  .ok (v61, q60.2))
  (.ok (undefA, q60.2))).bind fun q62 =>
  (guardEv (some (.val v57)) true
  ((Γ 62 [q62.1] q62.2).bind fun r63 =>
  .ok (r63.1, r63.2))
  (.ok (undefA, q62.2))).bind fun q64 =>
  (M.pick v57 q64.1 (.bool false)).bind fun v65 =>
  .ok (gc v65 H q64.2))
  (condEv (.bool ((p0_0 == 51)))
  ((M.bin Tryz.prog .eql 3 (.tmp 78) (.const (.int .i64 2)) v1 (.int .i64 2)).bind fun v66 =>
  (guardEv (some (.val v66)) true
  (.ok (p0_4, r2.2))
  (.ok (undefA, r2.2))).bind fun q67 =>
  (guardEv (some (.val v66)) true
  ((M.indexSl 6 q67.1 (.int .i64 0)).bind fun v68 =>
  .ok (v68, q67.2))
  (.ok (undefA, q67.2))).bind fun q69 =>
  (guardEv (some (.val v66)) true
  ((M.load true 6 q69.1 q69.2).bind fun v70 =>
  .ok (v70, q69.2))
  (.ok (undefA, q69.2))).bind fun q71 =>
  (guardEv (some (.val v66)) true
  ((Γ 62 [q71.1] q71.2).bind fun r72 =>
  .ok (r72.1, r72.2))
  (.ok (undefA, q71.2))).bind fun q73 =>
  (M.pick v66 q73.1 (.bool false)).bind fun v74 =>
  (guardEv (some (.val v74)) true
  (.ok (p0_4, q73.2))
  (.ok (undefA, q73.2))).bind fun q75 =>
  (guardEv (some (.val v74)) true
  ((M.indexSl 6 q75.1 (.int .i64 1)).bind fun v76 =>
  .ok (v76, q75.2))
  (.ok (undefA, q75.2))).bind fun q77 =>
  (guardEv (some (.val v74)) true
  ((M.load true 6 q77.1 q77.2).bind fun v78 =>
  .ok (v78, q77.2))
  (.ok (undefA, q77.2))).bind fun q79 =>
  (guardEv (some (.val v74)) true
  ((Γ 60 [q79.1] q79.2).bind fun r80 =>
  .ok (r80.1, r80.2))
  (.ok (undefA, q79.2))).bind fun q81 =>
  (M.pick v74 q81.1 (.bool false)).bind fun v82 =>
  .ok (gc v82 H q81.2))
  (condEv (.bool ((p0_0 == 52)))
  ((M.bin Tryz.prog .neq 3 (.tmp 96) (.const (.int .i64 4)) v1 (.int .i64 4)).bind fun v83 =>
  (guardEv (some (.val v83)) false
  (.ok (p0_4, r2.2))
  (.ok (undefA, r2.2))).bind fun q84 =>
  (guardEv (some (.val v83)) false
  ((M.indexSl 6 q84.1 (.int .i64 3)).bind fun v85 =>
  .ok (v85, q84.2))
  (.ok (undefA, q84.2))).bind fun q86 =>
  (guardEv (some (.val v83)) false
  ((M.load true 6 q86.1 q86.2).bind fun v87 =>
  .ok (v87, q86.2))
  (.ok (undefA, q86.2))).bind fun q88 =>
  (guardEv (some (.val v83)) false
  ((Γ 62 [q88.1] q88.2).bind fun r89 =>
  .ok (r89.1, r89.2))
  (.ok (undefA, q88.2))).bind fun q90 =>
  (guardEv (some (.val v83)) false
  ((M.un .not q90.1).bind fun v91 =>
  .ok (v91, q90.2))
  (.ok (undefA, q90.2))).bind fun q92 =>
  (M.pick v83 (.bool true) q92.1).bind fun v93 =>
  condEv v93
  (.ok (gc (.bool false) H q92.2))
  (lp (g62_l19 Γ lp H) ([(.int .i64 0)], [(1, [(.int .i64 p0_0), (.str p0_1), (.int .u32 p0_2), (.bool p0_3), p0_4, (.int .i64 p0_5)])], q92.2)))
  (jn (fun s117 =>
  condEv (s117.1.getD 2 undefA)
  ((M.bin Tryz.prog .eql 3 (.tmp 130) (.const (.int .i64 0)) (s117.1.getD 0 undefA) (.int .i64 0)).bind fun v118 =>
  .ok (gc v118 H s117.2.2))
  ((M.bin Tryz.prog .eql 3 (.tmp 12) (.const (.int .i64 55)) (s117.1.getD 1 undefA) (.int .i64 55)).bind fun v119 =>
  condEv v119
  ((M.bin Tryz.prog .eql 3 (.tmp 134) (.const (.int .i64 0)) (s117.1.getD 0 undefA) (.int .i64 0)).bind fun v120 =>
  (guardEv (some (.val v120)) false
  (onO (Locs.find s117.2.1 1) fun cs121 =>
  (M.ldc true 6 cs121 0).bind fun v122 =>
  .ok (v122, s117.2.2))
  (.ok (undefA, s117.2.2))).bind fun q123 =>
  (guardEv (some (.val v120)) false
  ((Γ 61 [q123.1, (.int .i64 1)] q123.2).bind fun r124 =>
  .ok (r124.1, r124.2))
  (.ok (undefA, q123.2))).bind fun q125 =>
  (M.pick v120 (.bool true) q125.1).bind fun v126 =>
  .ok (gc v126 H q125.2))
  (.ok (gc (.bool false) H s117.2.2)))) fun j127 =>
  condEv (.bool ((p0_0 == 53)))
  (j127 ([v1, (.int .i64 p0_0), (.bool ((p0_0 == 53)))], [(1, [(.int .i64 p0_0), (.str p0_1), (.int .u32 p0_2), (.bool p0_3), p0_4, (.int .i64 p0_5)])], r2.2))
  (condEv (.bool ((p0_0 == 54)))
  (j127 ([v1, (.int .i64 p0_0), (.bool ((p0_0 == 54)))], [(1, [(.int .i64 p0_0), (.str p0_1), (.int .u32 p0_2), (.bool p0_3), p0_4, (.int .i64 p0_5)])], r2.2))
  (j127 ([v1, (.int .i64 p0_0), (.bool ((p0_0 == 56)))], [(1, [(.int .i64 p0_0), (.str p0_1), (.int .u32 p0_2), (.bool p0_3), p0_4, (.int .i64 p0_5)])], r2.2))))))))))
theorem u62 {glob : Nat → Option (List AV)} {prim : Nat → Option (List AV → Heap → Out (AV × Heap))} (hp : prim 62 = none) (Γ : CallsT) (lp : LoopT Ans) (p0_0 : Int) (p0_1 : (List UInt8)) (p0_2 : Int) (p0_3 : Bool) (p0_4 : AV) (p0_5 : Int) (H : Heap) : runF (X0 glob prim) lp Γ 62 [(.agg [(.int .i64 p0_0), (.str p0_1), (.int .u32 p0_2), (.bool p0_3), p0_4, (.int .i64 p0_5)])] H = g62 Γ lp p0_0 p0_1 p0_2 p0_3 p0_4 p0_5 H :=
  (runF_run hp (show trieF.get 62 = some Tryz.f62 by kernel_rfl) (by kernel_rfl) (by kernel_rfl)).trans (by kernel_rfl)
theorem c62 {glob : Nat → Option (List AV)} {prim : Nat → Option (List AV → Heap → Out (AV × Heap))} (hp : prim 62 = none) (p0_0 : Int) (p0_1 : (List UInt8)) (p0_2 : Int) (p0_3 : Bool) (p0_4 : AV) (p0_5 : Int) (H : Heap) {r : Ans} (h : g62 (callW (X0 glob prim)) loopW p0_0 p0_1 p0_2 p0_3 p0_4 p0_5 H = .ok r) : callW (X0 glob prim) 62 [(.agg [(.int .i64 p0_0), (.str p0_1), (.int .u32 p0_2), (.bool p0_3), p0_4, (.int .i64 p0_5)])] H = .ok r := callW_of ((u62 hp ..).trans h)
/- crucible/crucibleref08.list -/
noncomputable def g63_l1 (Γ : CallsT) (lp : LoopT Ans) (H : Heap) : LS → (LS → Out Ans) → Out Ans := fun s1 a2 =>
  (M.len false (s1.1.getD 1 undefA)).bind fun v3 =>
  (M.bin Tryz.prog .lss 3 (.tmp 5) (.tmp 7) (s1.1.getD 2 undefA) v3).bind fun v4 =>
  condEv v4
  (jn (fun s5 =>
  (M.indexSl 6 (s5.1.getD 1 undefA) (s5.1.getD 2 undefA)).bind fun v6 =>
  (M.load true 6 v6 s5.2.2).bind fun v7 =>
  (Γ 44 [(s5.1.getD 0 undefA), v7, (.int .i64 0)] s5.2.2).bind fun r8 =>
  (M.bin Tryz.prog .add 3 (.tmp 9) (.const (.int .i64 1)) (s5.1.getD 2 undefA) (.int .i64 1)).bind fun v9 =>
  a2 ([(s5.1.getD 0 undefA), (s5.1.getD 1 undefA), v9], s5.2.1, r8.2)) fun j10 =>
  (M.bin Tryz.prog .gtr 3 (.tmp 11) (.const (.int .i64 0)) (s1.1.getD 2 undefA) (.int .i64 0)).bind fun v11 =>
  condEv v11
  ((Γ 41 [(s1.1.getD 0 undefA), (.str [44, 32])] s1.2.2).bind fun r12 =>
  j10 ([(s1.1.getD 0 undefA), (s1.1.getD 1 undefA), (s1.1.getD 2 undefA)], s1.2.1, r12.2))
  (j10 ([(s1.1.getD 0 undefA), (s1.1.getD 1 undefA), (s1.1.getD 2 undefA)], s1.2.1, s1.2.2)))
  (.ok (gc (.tup []) H s1.2.2))
noncomputable def g63 (Γ : CallsT) (lp : LoopT Ans) (p0 : AV) (p1 : AV) (H : Heap) : Out Ans :=
  lp (g63_l1 Γ lp H) ([p0, p1, (.int .i64 0)], [], H.start)
theorem u63 {glob : Nat → Option (List AV)} {prim : Nat → Option (List AV → Heap → Out (AV × Heap))} (hp : prim 63 = none) (Γ : CallsT) (lp : LoopT Ans) (p0 : AV) (p1 : AV) (H : Heap) : runF (X0 glob prim) lp Γ 63 [p0, p1] H = g63 Γ lp p0 p1 H :=
  (runF_run hp (show trieF.get 63 = some Tryz.f63 by kernel_rfl) (by kernel_rfl) (by kernel_rfl)).trans (by kernel_rfl)
theorem c63 {glob : Nat → Option (List AV)} {prim : Nat → Option (List AV → Heap → Out (AV × Heap))} (hp : prim 63 = none) (p0 : AV) (p1 : AV) (H : Heap) {r : Ans} (h : g63 (callW (X0 glob prim)) loopW p0 p1 H = .ok r) : callW (X0 glob prim) 63 [p0, p1] H = .ok r := callW_of ((u63 hp ..).trans h)
/- crucible/crucibleref08.level -/
noncomputable def g64 (Γ : CallsT) (lp : LoopT Ans) (p0_0 : Int) (p0_1 : (List UInt8)) (p0_2 : Int) (p0_3 : Bool) (p0_4 : AV) (p0_5 : Int) (H : Heap) : Out Ans :=
  condEv (.bool ((p0_0 == 13)))
  (.ok (gc (.int .i64 0) H H.start))
  (condEv (.bool ((p0_0 == 12)))
  (.ok (gc (.int .i64 1) H H.start))
  (jn (fun s1 =>
  condEv (s1.1.getD 1 undefA)
  (onO (Locs.find s1.2.1 1) fun cs2 =>
  (M.ldc false 1 cs2 1).bind fun v3 =>
  (Γ 93 [v3] s1.2.2).bind fun r4 =>
  .ok (gc r4.1 H r4.2))
  (jn (fun s5 =>
  condEv (s5.1.getD 0 undefA)
  (.ok (gc (.int .i64 12) H s5.2.2))
  (.ok (gc (.int .i64 13) H s5.2.2))) fun j6 =>
  (M.bin Tryz.prog .eql 3 (.tmp 4) (.const (.int .i64 9)) (s1.1.getD 0 undefA) (.int .i64 9)).bind fun v7 =>
  condEv v7
  (j6 ([v7], s1.2.1, s1.2.2))
  ((M.bin Tryz.prog .eql 3 (.tmp 4) (.const (.int .i64 14)) (s1.1.getD 0 undefA) (.int .i64 14)).bind fun v8 =>
  condEv v8
  (j6 ([v8], s1.2.1, s1.2.2))
  ((M.bin Tryz.prog .eql 3 (.tmp 4) (.const (.int .i64 15)) (s1.1.getD 0 undefA) (.int .i64 15)).bind fun v9 =>
  j6 ([v9], s1.2.1, s1.2.2))))) fun j10 =>
  condEv (.bool ((p0_0 == 10)))
  (j10 ([(.int .i64 p0_0), (.bool ((p0_0 == 10)))], [(1, [(.int .i64 p0_0), (.str p0_1), (.int .u32 p0_2), (.bool p0_3), p0_4, (.int .i64 p0_5)])], H.start))
  (j10 ([(.int .i64 p0_0), (.bool ((p0_0 == 11)))], [(1, [(.int .i64 p0_0), (.str p0_1), (.int .u32 p0_2), (.bool p0_3), p0_4, (.int .i64 p0_5)])], H.start))))
theorem u64 {glob : Nat → Option (List AV)} {prim : Nat → Option (List AV → Heap → Out (AV × Heap))} (hp : prim 64 = none) (Γ : CallsT) (lp : LoopT Ans) (p0_0 : Int) (p0_1 : (List UInt8)) (p0_2 : Int) (p0_3 : Bool) (p0_4 : AV) (p0_5 : Int) (H : Heap) : runF (X0 glob prim) lp Γ 64 [(.agg [(.int .i64 p0_0), (.str p0_1), (.int .u32 p0_2), (.bool p0_3), p0_4, (.int .i64 p0_5)])] H = g64 Γ lp p0_0 p0_1 p0_2 p0_3 p0_4 p0_5 H :=
  (runF_run hp (show trieF.get 64 = some Tryz.f64 by kernel_rfl) (by kernel_rfl) (by kernel_rfl)).trans (by kernel_rfl)
theorem c64 {glob : Nat → Option (List AV)} {prim : Nat → Option (List AV → Heap → Out (AV × Heap))} (hp : prim 64 = none) (p0_0 : Int) (p0_1 : (List UInt8)) (p0_2 : Int) (p0_3 : Bool) (p0_4 : AV) (p0_5 : Int) (H : Heap) {r : Ans} (h : g64 (callW (X0 glob prim)) loopW p0_0 p0_1 p0_2 p0_3 p0_4 p0_5 H = .ok r) : callW (X0 glob prim) 64 [(.agg [(.int .i64 p0_0), (.str p0_1), (.int .u32 p0_2), (.bool p0_3), p0_4, (.int .i64 p0_5)])] H = .ok r := callW_of ((u64 hp ..).trans h)
/- crucible/crucibleref08.expression -/
noncomputable def g65 (Γ : CallsT) (lp : LoopT Ans) (p0 : AV) (p1_0 : Int) (p1_1 : (List UInt8)) (p1_2 : Int) (p1_3 : Bool) (p1_4 : AV) (p1_5 : Int) (H : Heap) : Out Ans :=
  condEv (.bool ((p1_0 == 5)))
  ((M.indexSl 6 p1_4 (.int .i64 0)).bind fun v1 =>
  (M.load true 6 v1 H.start).bind fun v2 =>
  (Γ 44 [p0, v2, (.int .i64 13)] H.start).bind fun r3 =>
  (Γ 41 [p0, (.str [91])] r3.2).bind fun r4 =>
  (M.indexSl 6 p1_4 (.int .i64 1)).bind fun v5 =>
  (M.load true 6 v5 r4.2).bind fun v6 =>
  (Γ 44 [p0, v6, (.int .i64 0)] r4.2).bind fun r7 =>
  (Γ 41 [p0, (.str [93])] r7.2).bind fun r8 =>
  .ok (gc (.tup []) H r8.2))
  (condEv (.bool ((p1_0 == 6)))
  ((M.indexSl 6 p1_4 (.int .i64 0)).bind fun v9 =>
  (M.load true 6 v9 H.start).bind fun v10 =>
  (Γ 44 [p0, v10, (.int .i64 13)] H.start).bind fun r11 =>
  (M.bin Tryz.prog .add 9 (.const (.string ⟨⟨[46]⟩⟩)) (.tmp 37) (.str [46]) (.str p1_1)).bind fun v12 =>
  (Γ 41 [p0, v12] r11.2).bind fun r13 =>
  .ok (gc (.tup []) H r13.2))
  (condEv (.bool ((p1_0 == 7)))
  ((M.indexSl 6 p1_4 (.int .i64 0)).bind fun v14 =>
  (M.load true 6 v14 H.start).bind fun v15 =>
  (Γ 44 [p0, v15, (.int .i64 13)] H.start).bind fun r16 =>
  (M.bin Tryz.prog .add 9 (.const (.string ⟨⟨[45, 62]⟩⟩)) (.tmp 50) (.str [45, 62]) (.str p1_1)).bind fun v17 =>
  (Γ 41 [p0, v17] r16.2).bind fun r18 =>
  .ok (gc (.tup []) H r18.2))
  (condEv (.bool ((p1_0 == 9)))
  ((Γ 41 [p0, (.str p1_1)] H.start).bind fun r19 =>
  jn (fun s20 =>
  onO (Locs.find s20.2.1 3) fun cs21 =>
  (M.ldc false 1 cs21 4).bind fun v22 =>
  (M.indexSl 6 v22 (.int .i64 0)).bind fun v23 =>
  (M.load true 6 v23 s20.2.2).bind fun v24 =>
  (Γ 44 [(s20.1.getD 0 undefA), v24, (.int .i64 12)] s20.2.2).bind fun r25 =>
  .ok (gc (.tup []) H r25.2)) fun j26 =>
  (M.indexSl 6 p1_4 (.int .i64 0)).bind fun v27 =>
  (M.fieldAddr 0 v27).bind fun v28 =>
  (M.load false 1 v28 r19.2).bind fun v29 =>
  (M.bin Tryz.prog .eql 3 (.tmp 63) (.const (.int .i64 9)) v29 (.int .i64 9)).bind fun v30 =>
  (guardEv (some (.val v30)) true
  (.ok (p1_4, r19.2))
  (.ok (undefA, r19.2))).bind fun q31 =>
  (guardEv (some (.val v30)) true
  ((M.indexSl 6 q31.1 (.int .i64 0)).bind fun v32 =>
  .ok (v32, q31.2))
  (.ok (undefA, q31.2))).bind fun q33 =>
  (guardEv (some (.val v30)) true
  ((M.fieldAddr 1 q33.1).bind fun v34 =>
  .ok (v34, q33.2))
  (.ok (undefA, q33.2))).bind fun q35 =>
  (guardEv (some (.val v30)) true
  ((M.load false 1 q35.1 q35.2).bind fun v36 =>
  .ok (v36, q35.2))
  (.ok (undefA, q35.2))).bind fun q37 =>
  (guardEv (some (.val v30)) true
  (.ok ((.str p1_1), q37.2))
  (.ok (undefA, q37.2))).bind fun q38 =>
  (guardEv (some (.val v30)) true
  ((M.bin Tryz.prog .eql 9 (.tmp 70) (.tmp 72) q37.1 q38.1).bind fun v39 =>
  .ok (v39, q38.2))
  (.ok (undefA, q38.2))).bind fun q40 =>
  (M.pick v30 q40.1 (.bool false)).bind fun v41 =>
  condEv v41
  ((Γ 41 [p0, (.str [32])] q40.2).bind fun r42 =>
  j26 ([p0], [(3, [(.int .i64 p1_0), (.str p1_1), (.int .u32 p1_2), (.bool p1_3), p1_4, (.int .i64 p1_5)])], r42.2))
  (j26 ([p0], [(3, [(.int .i64 p1_0), (.str p1_1), (.int .u32 p1_2), (.bool p1_3), p1_4, (.int .i64 p1_5)])], q40.2)))
  (condEv (.bool ((p1_0 == 14)))
  ((M.indexSl 6 p1_4 (.int .i64 0)).bind fun v43 =>
  (M.fieldAddr 1 v43).bind fun v44 =>
  (M.load false 1 v44 H.start).bind fun v45 =>
  (M.bin Tryz.prog .add 9 (.const (.string ⟨⟨[40]⟩⟩)) (.tmp 90) (.str [40]) v45).bind fun v46 =>
  (M.bin Tryz.prog .add 9 (.tmp 91) (.const (.string ⟨⟨[41]⟩⟩)) v46 (.str [41])).bind fun v47 =>
  (Γ 41 [p0, v47] H.start).bind fun r48 =>
  (M.indexSl 6 p1_4 (.int .i64 1)).bind fun v49 =>
  (M.load true 6 v49 r48.2).bind fun v50 =>
  (Γ 44 [p0, v50, (.int .i64 12)] r48.2).bind fun r51 =>
  .ok (gc (.tup []) H r51.2))
  (condEv (.bool ((p1_0 == 15)))
  ((M.indexSl 6 p1_4 (.int .i64 0)).bind fun v52 =>
  (M.load true 6 v52 H.start).bind fun v53 =>
  (Γ 94 [p0, v53] H.start).bind fun r54 =>
  .ok (gc (.tup []) H r54.2))
  (jn (fun s55 =>
  condEv (s55.1.getD 2 undefA)
  (onO (Locs.find s55.2.1 3) fun cs56 =>
  (M.ldc false 1 cs56 4).bind fun v57 =>
  (M.indexSl 6 v57 (.int .i64 0)).bind fun v58 =>
  (M.load true 6 v58 s55.2.2).bind fun v59 =>
  onO (Locs.find s55.2.1 3) fun cs60 =>
  (M.ldc false 1 cs60 1).bind fun v61 =>
  (Γ 93 [v61] (s55.2.2).start).bind fun r62 =>
  if r62.2.n = (s55.2.2).n ∧ r62.2.low = (s55.2.2).n then
  (Γ 44 [(s55.1.getD 0 undefA), v59, r62.1] s55.2.2).bind fun r63 =>
  onO (Locs.find s55.2.1 3) fun cs64 =>
  (M.ldc false 1 cs64 1).bind fun v65 =>
  (M.bin Tryz.prog .add 9 (.const (.string ⟨⟨[32]⟩⟩)) (.tmp 122) (.str [32]) v65).bind fun v66 =>
  (M.bin Tryz.prog .add 9 (.tmp 123) (.const (.string ⟨⟨[32]⟩⟩)) v66 (.str [32])).bind fun v67 =>
  (Γ 41 [(s55.1.getD 0 undefA), v67] r63.2).bind fun r68 =>
  onO (Locs.find s55.2.1 3) fun cs69 =>
  (M.ldc false 1 cs69 4).bind fun v70 =>
  (M.indexSl 6 v70 (.int .i64 1)).bind fun v71 =>
  (M.load true 6 v71 r68.2).bind fun v72 =>
  onO (Locs.find s55.2.1 3) fun cs73 =>
  (M.ldc false 1 cs73 1).bind fun v74 =>
  (Γ 93 [v74] (r68.2).start).bind fun r75 =>
  if r75.2.n = (r68.2).n ∧ r75.2.low = (r68.2).n then
  (M.bin Tryz.prog .add 3 (.tmp 133) (.const (.int .i64 1)) r75.1 (.int .i64 1)).bind fun v76 =>
  (Γ 44 [(s55.1.getD 0 undefA), v72, v76] r68.2).bind fun r77 =>
  .ok (gc (.tup []) H r77.2)
  else .no
  else .no)
  ((M.bin Tryz.prog .eql 3 (.tmp 5) (.const (.int .i64 12)) (s55.1.getD 1 undefA) (.int .i64 12)).bind fun v78 =>
  condEv v78
  (onO (Locs.find s55.2.1 3) fun cs79 =>
  (M.ldc false 1 cs79 4).bind fun v80 =>
  (M.indexSl 6 v80 (.int .i64 0)).bind fun v81 =>
  (M.load true 6 v81 s55.2.2).bind fun v82 =>
  (Γ 44 [(s55.1.getD 0 undefA), v82, (.int .i64 2)] s55.2.2).bind fun r83 =>
  (Γ 41 [(s55.1.getD 0 undefA), (.str [32, 63, 32])] r83.2).bind fun r84 =>
  onO (Locs.find s55.2.1 3) fun cs85 =>
  (M.ldc false 1 cs85 4).bind fun v86 =>
  (M.indexSl 6 v86 (.int .i64 1)).bind fun v87 =>
  (M.load true 6 v87 r84.2).bind fun v88 =>
  (Γ 44 [(s55.1.getD 0 undefA), v88, (.int .i64 0)] r84.2).bind fun r89 =>
  (Γ 41 [(s55.1.getD 0 undefA), (.str [32, 58, 32])] r89.2).bind fun r90 =>
  onO (Locs.find s55.2.1 3) fun cs91 =>
  (M.ldc false 1 cs91 4).bind fun v92 =>
  (M.indexSl 6 v92 (.int .i64 2)).bind fun v93 =>
  (M.load true 6 v93 r90.2).bind fun v94 =>
  (Γ 44 [(s55.1.getD 0 undefA), v94, (.int .i64 1)] r90.2).bind fun r95 =>
  .ok (gc (.tup []) H r95.2))
  ((M.bin Tryz.prog .eql 3 (.tmp 5) (.const (.int .i64 13)) (s55.1.getD 1 undefA) (.int .i64 13)).bind fun v96 =>
  condEv v96
  (onO (Locs.find s55.2.1 3) fun cs97 =>
  (M.ldc false 1 cs97 4).bind fun v98 =>
  (M.indexSl 6 v98 (.int .i64 0)).bind fun v99 =>
  (M.load true 6 v99 s55.2.2).bind fun v100 =>
  (Γ 44 [(s55.1.getD 0 undefA), v100, (.int .i64 13)] s55.2.2).bind fun r101 =>
  onO (Locs.find s55.2.1 3) fun cs102 =>
  (M.ldc false 1 cs102 1).bind fun v103 =>
  (M.bin Tryz.prog .add 9 (.const (.string ⟨⟨[32]⟩⟩)) (.tmp 170) (.str [32]) v103).bind fun v104 =>
  (M.bin Tryz.prog .add 9 (.tmp 171) (.const (.string ⟨⟨[32]⟩⟩)) v104 (.str [32])).bind fun v105 =>
  (Γ 41 [(s55.1.getD 0 undefA), v105] r101.2).bind fun r106 =>
  onO (Locs.find s55.2.1 3) fun cs107 =>
  (M.ldc false 1 cs107 4).bind fun v108 =>
  (M.indexSl 6 v108 (.int .i64 1)).bind fun v109 =>
  (M.load true 6 v109 r106.2).bind fun v110 =>
  (Γ 44 [(s55.1.getD 0 undefA), v110, (.int .i64 0)] r106.2).bind fun r111 =>
  .ok (gc (.tup []) H r111.2))
  (onO (Locs.find s55.2.1 3) fun cs112 =>
  (M.ldc true 6 cs112 0).bind fun v113 =>
  (Γ 95 [(s55.1.getD 0 undefA), v113] s55.2.2).bind fun r114 =>
  .ok (gc (.tup []) H r114.2))))) fun j115 =>
  condEv (.bool ((p1_0 == 10)))
  (j115 ([p0, (.int .i64 p1_0), (.bool ((p1_0 == 10)))], [(3, [(.int .i64 p1_0), (.str p1_1), (.int .u32 p1_2), (.bool p1_3), p1_4, (.int .i64 p1_5)])], H.start))
  (j115 ([p0, (.int .i64 p1_0), (.bool ((p1_0 == 11)))], [(3, [(.int .i64 p1_0), (.str p1_1), (.int .u32 p1_2), (.bool p1_3), p1_4, (.int .i64 p1_5)])], H.start))))))))
theorem u65 {glob : Nat → Option (List AV)} {prim : Nat → Option (List AV → Heap → Out (AV × Heap))} (hp : prim 65 = none) (Γ : CallsT) (lp : LoopT Ans) (p0 : AV) (p1_0 : Int) (p1_1 : (List UInt8)) (p1_2 : Int) (p1_3 : Bool) (p1_4 : AV) (p1_5 : Int) (H : Heap) : runF (X0 glob prim) lp Γ 65 [p0, (.agg [(.int .i64 p1_0), (.str p1_1), (.int .u32 p1_2), (.bool p1_3), p1_4, (.int .i64 p1_5)])] H = g65 Γ lp p0 p1_0 p1_1 p1_2 p1_3 p1_4 p1_5 H :=
  (runF_run hp (show trieF.get 65 = some Tryz.f65 by kernel_rfl) (by kernel_rfl) (by kernel_rfl)).trans (by kernel_rfl)
theorem c65 {glob : Nat → Option (List AV)} {prim : Nat → Option (List AV → Heap → Out (AV × Heap))} (hp : prim 65 = none) (p0 : AV) (p1_0 : Int) (p1_1 : (List UInt8)) (p1_2 : Int) (p1_3 : Bool) (p1_4 : AV) (p1_5 : Int) (H : Heap) {r : Ans} (h : g65 (callW (X0 glob prim)) loopW p0 p1_0 p1_1 p1_2 p1_3 p1_4 p1_5 H = .ok r) : callW (X0 glob prim) 65 [p0, (.agg [(.int .i64 p1_0), (.str p1_1), (.int .u32 p1_2), (.bool p1_3), p1_4, (.int .i64 p1_5)])] H = .ok r := callW_of ((u65 hp ..).trans h)
/- crucible/ast.name -/
noncomputable def g66 (Γ : CallsT) (lp : LoopT Ans) (p0 : (List UInt8)) (H : Heap) : Out Ans :=
  (Γ 96 [(.str p0)] H.start).bind fun r1 =>
  (guardEv (some (.val r1.1)) true
  (.ok ((.str p0), r1.2))
  (.ok (undefA, r1.2))).bind fun q2 =>
  (guardEv (some (.val r1.1)) true
  ((Γ 97 [q2.1] q2.2).bind fun r3 =>
  .ok (r3.1, r3.2))
  (.ok (undefA, q2.2))).bind fun q4 =>
  (guardEv (some (.val r1.1)) true
  ((M.un .not q4.1).bind fun v5 =>
  .ok (v5, q4.2))
  (.ok (undefA, q4.2))).bind fun q6 =>
  (M.pick r1.1 q6.1 (.bool false)).bind fun v7 =>
  .ok (gc v7 H q6.2)
theorem u66 {glob : Nat → Option (List AV)} {prim : Nat → Option (List AV → Heap → Out (AV × Heap))} (hp : prim 66 = none) (Γ : CallsT) (lp : LoopT Ans) (p0 : (List UInt8)) (H : Heap) : runF (X0 glob prim) lp Γ 66 [(.str p0)] H = g66 Γ lp p0 H :=
  (runF_run hp (show trieF.get 66 = some Tryz.f66 by kernel_rfl) (by kernel_rfl) (by kernel_rfl)).trans (by kernel_rfl)
theorem c66 {glob : Nat → Option (List AV)} {prim : Nat → Option (List AV → Heap → Out (AV × Heap))} (hp : prim 66 = none) (p0 : (List UInt8)) (H : Heap) {r : Ans} (h : g66 (callW (X0 glob prim)) loopW p0 H = .ok r) : callW (X0 glob prim) 66 [(.str p0)] H = .ok r := callW_of ((u66 hp ..).trans h)
/- crucible/ast.shape -/
noncomputable def g67_l4 (Γ : CallsT) (lp : LoopT Ans) (H : Heap) : LS → (LS → Out Ans) → Out Ans := fun s5 a6 =>
  (M.bin Tryz.prog .lss 3 (.tmp 14) (.tmp 13) (s5.1.getD 3 undefA) (s5.1.getD 2 undefA)).bind fun v7 =>
  condEv v7
  ((M.indexSl 1 (s5.1.getD 1 undefA) (s5.1.getD 3 undefA)).bind fun v8 =>
  (M.load false 1 v8 s5.2.2).bind fun v9 =>
  (M.indexSl 6 (s5.1.getD 0 undefA) (s5.1.getD 3 undefA)).bind fun v10 =>
  (M.load true 6 v10 s5.2.2).bind fun v11 =>
  callV Γ v9 [v11] s5.2.2 fun v12 h13 =>
  (M.un .not v12).bind fun v14 =>
  condEv v14
  (.ok (gc (.bool false) H h13))
  ((M.bin Tryz.prog .add 3 (.tmp 14) (.const (.int .i64 1)) (s5.1.getD 3 undefA) (.int .i64 1)).bind fun v15 =>
  a6 ([(s5.1.getD 0 undefA), (s5.1.getD 1 undefA), (s5.1.getD 2 undefA), v15], s5.2.1, h13)))
  (.ok (gc (.bool true) H s5.2.2))
noncomputable def g67 (Γ : CallsT) (lp : LoopT Ans) (p0 : AV) (p1 : AV) (H : Heap) : Out Ans :=
  (M.len false p0).bind fun v1 =>
  (M.len false p1).bind fun v2 =>
  (M.bin Tryz.prog .neq 3 (.tmp 8) (.tmp 10) v1 v2).bind fun v3 =>
  condEv v3
  (.ok (gc (.bool false) H H.start))
  ((M.len false p1).bind fun v4 =>
  lp (g67_l4 Γ lp H) ([p0, p1, v4, (.int .i64 0)], [], H.start))
theorem u67 {glob : Nat → Option (List AV)} {prim : Nat → Option (List AV → Heap → Out (AV × Heap))} (hp : prim 67 = none) (Γ : CallsT) (lp : LoopT Ans) (p0 : AV) (p1 : AV) (H : Heap) : runF (X0 glob prim) lp Γ 67 [p0, p1] H = g67 Γ lp p0 p1 H :=
  (runF_run hp (show trieF.get 67 = some Tryz.f67 by kernel_rfl) (by kernel_rfl) (by kernel_rfl)).trans (by kernel_rfl)
theorem c67 {glob : Nat → Option (List AV)} {prim : Nat → Option (List AV → Heap → Out (AV × Heap))} (hp : prim 67 = none) (p0 : AV) (p1 : AV) (H : Heap) {r : Ans} (h : g67 (callW (X0 glob prim)) loopW p0 p1 H = .ok r) : callW (X0 glob prim) 67 [p0, p1] H = .ok r := callW_of ((u67 hp ..).trans h)
/- crucible/ast.one -/
noncomputable def g68 (Γ : CallsT) (lp : LoopT Ans) (p0 : (List UInt8)) (p1 : (List UInt8)) (H : Heap) : Out Ans :=
  (guardEv (some (.val (.bool (!(p1 == []))))) true
  (.ok ((.str p1), H.start))
  (.ok (undefA, H.start))).bind fun q1 =>
  (guardEv (some (.val (.bool (!(p1 == []))))) true
  ((Γ 98 [q1.1, (.str [32])] q1.2).bind fun r2 =>
  .ok (r2.1, r2.2))
  (.ok (undefA, q1.2))).bind fun q3 =>
  (guardEv (some (.val (.bool (!(p1 == []))))) true
  ((M.un .not q3.1).bind fun v4 =>
  .ok (v4, q3.2))
  (.ok (undefA, q3.2))).bind fun q5 =>
  (M.pick (.bool (!(p1 == []))) q5.1 (.bool false)).bind fun v6 =>
  (guardEv (some (.val v6)) true
  (.ok ((.str p0), q5.2))
  (.ok (undefA, q5.2))).bind fun q7 =>
  (guardEv (some (.val v6)) true
  ((M.bin Tryz.prog .add 9 (.const (.string ⟨⟨[32]⟩⟩)) (.tmp 13) (.str [32]) q7.1).bind fun v8 =>
  .ok (v8, q7.2))
  (.ok (undefA, q7.2))).bind fun q9 =>
  (guardEv (some (.val v6)) true
  ((M.bin Tryz.prog .add 9 (.tmp 14) (.const (.string ⟨⟨[32]⟩⟩)) q9.1 (.str [32])).bind fun v10 =>
  .ok (v10, q9.2))
  (.ok (undefA, q9.2))).bind fun q11 =>
  (guardEv (some (.val v6)) true
  (.ok ((.str p1), q11.2))
  (.ok (undefA, q11.2))).bind fun q12 =>
  (guardEv (some (.val v6)) true
  ((M.bin Tryz.prog .add 9 (.const (.string ⟨⟨[32]⟩⟩)) (.tmp 16) (.str [32]) q12.1).bind fun v13 =>
  .ok (v13, q12.2))
  (.ok (undefA, q12.2))).bind fun q14 =>
  (guardEv (some (.val v6)) true
  ((M.bin Tryz.prog .add 9 (.tmp 17) (.const (.string ⟨⟨[32]⟩⟩)) q14.1 (.str [32])).bind fun v15 =>
  .ok (v15, q14.2))
  (.ok (undefA, q14.2))).bind fun q16 =>
  (guardEv (some (.val v6)) true
  ((Γ 98 [q11.1, q16.1] q16.2).bind fun r17 =>
  .ok (r17.1, r17.2))
  (.ok (undefA, q16.2))).bind fun q18 =>
  (M.pick v6 q18.1 (.bool false)).bind fun v19 =>
  .ok (gc v19 H q18.2)
theorem u68 {glob : Nat → Option (List AV)} {prim : Nat → Option (List AV → Heap → Out (AV × Heap))} (hp : prim 68 = none) (Γ : CallsT) (lp : LoopT Ans) (p0 : (List UInt8)) (p1 : (List UInt8)) (H : Heap) : runF (X0 glob prim) lp Γ 68 [(.str p0), (.str p1)] H = g68 Γ lp p0 p1 H :=
  (runF_run hp (show trieF.get 68 = some Tryz.f68 by kernel_rfl) (by kernel_rfl) (by kernel_rfl)).trans (by kernel_rfl)
theorem c68 {glob : Nat → Option (List AV)} {prim : Nat → Option (List AV → Heap → Out (AV × Heap))} (hp : prim 68 = none) (p0 : (List UInt8)) (p1 : (List UInt8)) (H : Heap) {r : Ans} (h : g68 (callW (X0 glob prim)) loopW p0 p1 H = .ok r) : callW (X0 glob prim) 68 [(.str p0), (.str p1)] H = .ok r := callW_of ((u68 hp ..).trans h)
/- crucible/ast.place -/
noncomputable def g69 (Γ : CallsT) (lp : LoopT Ans) (p0_0 : Int) (p0_1 : (List UInt8)) (p0_2 : Int) (p0_3 : Bool) (p0_4 : AV) (p0_5 : Int) (H : Heap) : Out Ans :=
  jn (fun s1 =>
  condEv (s1.1.getD 0 undefA)
  (.ok (gc (.bool true) H s1.2.2))
  (.ok (gc (.bool false) H s1.2.2))) fun j2 =>
  condEv (.bool ((p0_0 == 4)))
  (j2 ([(.bool ((p0_0 == 4)))], [(1, [(.int .i64 p0_0), (.str p0_1), (.int .u32 p0_2), (.bool p0_3), p0_4, (.int .i64 p0_5)])], H.start))
  (condEv (.bool ((p0_0 == 5)))
  (j2 ([(.bool ((p0_0 == 5)))], [(1, [(.int .i64 p0_0), (.str p0_1), (.int .u32 p0_2), (.bool p0_3), p0_4, (.int .i64 p0_5)])], H.start))
  (condEv (.bool ((p0_0 == 6)))
  (j2 ([(.bool ((p0_0 == 6)))], [(1, [(.int .i64 p0_0), (.str p0_1), (.int .u32 p0_2), (.bool p0_3), p0_4, (.int .i64 p0_5)])], H.start))
  (j2 ([(.bool ((p0_0 == 7)))], [(1, [(.int .i64 p0_0), (.str p0_1), (.int .u32 p0_2), (.bool p0_3), p0_4, (.int .i64 p0_5)])], H.start))))
theorem u69 {glob : Nat → Option (List AV)} {prim : Nat → Option (List AV → Heap → Out (AV × Heap))} (hp : prim 69 = none) (Γ : CallsT) (lp : LoopT Ans) (p0_0 : Int) (p0_1 : (List UInt8)) (p0_2 : Int) (p0_3 : Bool) (p0_4 : AV) (p0_5 : Int) (H : Heap) : runF (X0 glob prim) lp Γ 69 [(.agg [(.int .i64 p0_0), (.str p0_1), (.int .u32 p0_2), (.bool p0_3), p0_4, (.int .i64 p0_5)])] H = g69 Γ lp p0_0 p0_1 p0_2 p0_3 p0_4 p0_5 H :=
  (runF_run hp (show trieF.get 69 = some Tryz.f69 by kernel_rfl) (by kernel_rfl) (by kernel_rfl)).trans (by kernel_rfl)
theorem c69 {glob : Nat → Option (List AV)} {prim : Nat → Option (List AV → Heap → Out (AV × Heap))} (hp : prim 69 = none) (p0_0 : Int) (p0_1 : (List UInt8)) (p0_2 : Int) (p0_3 : Bool) (p0_4 : AV) (p0_5 : Int) (H : Heap) {r : Ans} (h : g69 (callW (X0 glob prim)) loopW p0_0 p0_1 p0_2 p0_3 p0_4 p0_5 H = .ok r) : callW (X0 glob prim) 69 [(.agg [(.int .i64 p0_0), (.str p0_1), (.int .u32 p0_2), (.bool p0_3), p0_4, (.int .i64 p0_5)])] H = .ok r := callW_of ((u69 hp ..).trans h)
/- crucible/ast.of -/
noncomputable def g70 (Γ : CallsT) (lp : LoopT Ans) (p0 : Int) (H : Heap) : Out Ans :=
  let h1 : Heap := (H.start).alloc (.cells 3 [(.int .i64 p0)])
  .ok (gcz (.fn (.func 99) [] [(.ref (H.start).n 0)]) H h1)
theorem u70 {glob : Nat → Option (List AV)} {prim : Nat → Option (List AV → Heap → Out (AV × Heap))} (hp : prim 70 = none) (Γ : CallsT) (lp : LoopT Ans) (p0 : Int) (H : Heap) : runF (X0 glob prim) lp Γ 70 [(.int .i64 p0)] H = g70 Γ lp p0 H :=
  (runF_run hp (show trieF.get 70 = some Tryz.f70 by kernel_rfl) (by kernel_rfl) (by kernel_rfl)).trans (by kernel_rfl)
theorem c70 {glob : Nat → Option (List AV)} {prim : Nat → Option (List AV → Heap → Out (AV × Heap))} (hp : prim 70 = none) (p0 : Int) (H : Heap) {r : Ans} (h : g70 (callW (X0 glob prim)) loopW p0 H = .ok r) : callW (X0 glob prim) 70 [(.int .i64 p0)] H = .ok r := callW_of ((u70 hp ..).trans h)
/- crucible/ast.expressions$1 -/
noncomputable def g71 (Γ : CallsT) (lp : LoopT Ans) (p0_0 : Int) (p0_1 : (List UInt8)) (p0_2 : Int) (p0_3 : Bool) (p0_4 : AV) (p0_5 : Int) (H : Heap) : Out Ans :=
  (guardEv (some (.val (.bool ((p0_0 == 16))))) false
  (.ok ((.agg [(.int .i64 p0_0), (.str p0_1), (.int .u32 p0_2), (.bool p0_3), p0_4, (.int .i64 p0_5)]), H.start))
  (.ok (undefA, H.start))).bind fun q1 =>
  (guardEv (some (.val (.bool ((p0_0 == 16))))) false
  ((Γ 47 [q1.1] q1.2).bind fun r2 =>
  .ok (r2.1, r2.2))
  (.ok (undefA, q1.2))).bind fun q3 =>
  (M.pick (.bool ((p0_0 == 16))) (.bool true) q3.1).bind fun v4 =>
  .ok (gc v4 H q3.2)
theorem u71 {glob : Nat → Option (List AV)} {prim : Nat → Option (List AV → Heap → Out (AV × Heap))} (hp : prim 71 = none) (Γ : CallsT) (lp : LoopT Ans) (p0_0 : Int) (p0_1 : (List UInt8)) (p0_2 : Int) (p0_3 : Bool) (p0_4 : AV) (p0_5 : Int) (H : Heap) : runF (X0 glob prim) lp Γ 71 [(.agg [(.int .i64 p0_0), (.str p0_1), (.int .u32 p0_2), (.bool p0_3), p0_4, (.int .i64 p0_5)])] H = g71 Γ lp p0_0 p0_1 p0_2 p0_3 p0_4 p0_5 H :=
  (runF_run hp (show trieF.get 71 = some Tryz.f71 by kernel_rfl) (by kernel_rfl) (by kernel_rfl)).trans (by kernel_rfl)
theorem c71 {glob : Nat → Option (List AV)} {prim : Nat → Option (List AV → Heap → Out (AV × Heap))} (hp : prim 71 = none) (p0_0 : Int) (p0_1 : (List UInt8)) (p0_2 : Int) (p0_3 : Bool) (p0_4 : AV) (p0_5 : Int) (H : Heap) {r : Ans} (h : g71 (callW (X0 glob prim)) loopW p0_0 p0_1 p0_2 p0_3 p0_4 p0_5 H = .ok r) : callW (X0 glob prim) 71 [(.agg [(.int .i64 p0_0), (.str p0_1), (.int .u32 p0_2), (.bool p0_3), p0_4, (.int .i64 p0_5)])] H = .ok r := callW_of ((u71 hp ..).trans h)
/- crucible/ast.typed -/
noncomputable def g72 (Γ : CallsT) (lp : LoopT Ans) (p0 : (List UInt8)) (H : Heap) : Out Ans :=
  (Γ 100 [(.str p0), (.str [115, 116, 114, 117, 99, 116, 32])] H.start).bind fun r1 =>
  (M.extract 0 r1.1).bind fun v2 =>
  (M.extract 1 r1.1).bind fun v3 =>
  (guardEv (some (.val v3)) true
  (.ok (v2, r1.2))
  (.ok (undefA, r1.2))).bind fun q4 =>
  (guardEv (some (.val v3)) true
  ((Γ 66 [q4.1] q4.2).bind fun r5 =>
  .ok (r5.1, r5.2))
  (.ok (undefA, q4.2))).bind fun q6 =>
  (M.pick v3 q6.1 (.bool false)).bind fun v7 =>
  (guardEv (some (.val v7)) false
  (.ok ((.str p0), q6.2))
  (.ok (undefA, q6.2))).bind fun q8 =>
  (guardEv (some (.val v7)) false
  ((Γ 68 [(.str [105, 110, 116, 32, 117, 105, 110, 116, 32, 99, 104, 97, 114, 32, 118, 111, 105, 100]), q8.1] q8.2).bind fun r9 =>
  .ok (r9.1, r9.2))
  (.ok (undefA, q8.2))).bind fun q10 =>
  (M.pick v7 (.bool true) q10.1).bind fun v11 =>
  .ok (gc v11 H q10.2)
theorem u72 {glob : Nat → Option (List AV)} {prim : Nat → Option (List AV → Heap → Out (AV × Heap))} (hp : prim 72 = none) (Γ : CallsT) (lp : LoopT Ans) (p0 : (List UInt8)) (H : Heap) : runF (X0 glob prim) lp Γ 72 [(.str p0)] H = g72 Γ lp p0 H :=
  (runF_run hp (show trieF.get 72 = some Tryz.f72 by kernel_rfl) (by kernel_rfl) (by kernel_rfl)).trans (by kernel_rfl)
theorem c72 {glob : Nat → Option (List AV)} {prim : Nat → Option (List AV → Heap → Out (AV × Heap))} (hp : prim 72 = none) (p0 : (List UInt8)) (H : Heap) {r : Ans} (h : g72 (callW (X0 glob prim)) loopW p0 H = .ok r) : callW (X0 glob prim) 72 [(.str p0)] H = .ok r := callW_of ((u72 hp ..).trans h)
/- crucible/ast.statements$1 -/
noncomputable def g73 (Γ : CallsT) (lp : LoopT Ans) (p0_0 : Int) (p0_1 : (List UInt8)) (p0_2 : Int) (p0_3 : Bool) (p0_4 : AV) (p0_5 : Int) (H : Heap) : Out Ans :=
  (Γ 49 [(.agg [(.int .i64 p0_0), (.str p0_1), (.int .u32 p0_2), (.bool p0_3), p0_4, (.int .i64 p0_5)])] H.start).bind fun r1 =>
  (guardEv (some (.val r1.1)) false
  (.ok ((.int .i64 p0_0), r1.2))
  (.ok (undefA, r1.2))).bind fun q2 =>
  (guardEv (some (.val r1.1)) false
  ((M.bin Tryz.prog .eql 3 (.tmp 7) (.const (.int .i64 42)) q2.1 (.int .i64 42)).bind fun v3 =>
  .ok (v3, q2.2))
  (.ok (undefA, q2.2))).bind fun q4 =>
  (M.pick r1.1 (.bool true) q4.1).bind fun v5 =>
  .ok (gc v5 H q4.2)
theorem u73 {glob : Nat → Option (List AV)} {prim : Nat → Option (List AV → Heap → Out (AV × Heap))} (hp : prim 73 = none) (Γ : CallsT) (lp : LoopT Ans) (p0_0 : Int) (p0_1 : (List UInt8)) (p0_2 : Int) (p0_3 : Bool) (p0_4 : AV) (p0_5 : Int) (H : Heap) : runF (X0 glob prim) lp Γ 73 [(.agg [(.int .i64 p0_0), (.str p0_1), (.int .u32 p0_2), (.bool p0_3), p0_4, (.int .i64 p0_5)])] H = g73 Γ lp p0_0 p0_1 p0_2 p0_3 p0_4 p0_5 H :=
  (runF_run hp (show trieF.get 73 = some Tryz.f73 by kernel_rfl) (by kernel_rfl) (by kernel_rfl)).trans (by kernel_rfl)
theorem c73 {glob : Nat → Option (List AV)} {prim : Nat → Option (List AV → Heap → Out (AV × Heap))} (hp : prim 73 = none) (p0_0 : Int) (p0_1 : (List UInt8)) (p0_2 : Int) (p0_3 : Bool) (p0_4 : AV) (p0_5 : Int) (H : Heap) {r : Ans} (h : g73 (callW (X0 glob prim)) loopW p0_0 p0_1 p0_2 p0_3 p0_4 p0_5 H = .ok r) : callW (X0 glob prim) 73 [(.agg [(.int .i64 p0_0), (.str p0_1), (.int .u32 p0_2), (.bool p0_3), p0_4, (.int .i64 p0_5)])] H = .ok r := callW_of ((u73 hp ..).trans h)
/- crucible/ast.open -/
noncomputable def g74 (Γ : CallsT) (lp : LoopT Ans) (p0_0 : Int) (p0_1 : (List UInt8)) (p0_2 : Int) (p0_3 : Bool) (p0_4 : AV) (p0_5 : Int) (H : Heap) : Out Ans :=
  jn (fun s1 =>
  onO (Locs.find s1.2.1 1) fun cs2 =>
  (M.ldc false 1 cs2 4).bind fun v3 =>
  (M.len false v3).bind fun v4 =>
  (M.bin Tryz.prog .gtr 3 (.tmp 16) (.const (.int .i64 0)) v4 (.int .i64 0)).bind fun v5 =>
  (guardEv (some (.val v5)) true
  (onO (Locs.find s1.2.1 1) fun cs6 =>
  (M.ldc false 1 cs6 4).bind fun v7 =>
  .ok (v7, s1.2.2))
  (.ok (undefA, s1.2.2))).bind fun q8 =>
  (guardEv (some (.val v5)) true
  (onO (Locs.find s1.2.1 1) fun cs9 =>
  (M.ldc false 1 cs9 4).bind fun v10 =>
  .ok (v10, q8.2))
  (.ok (undefA, q8.2))).bind fun q11 =>
  (guardEv (some (.val v5)) true
  ((M.len false q11.1).bind fun v12 =>
  .ok (v12, q11.2))
  (.ok (undefA, q11.2))).bind fun q13 =>
  (guardEv (some (.val v5)) true
  ((M.bin Tryz.prog .sub 3 (.tmp 23) (.const (.int .i64 1)) q13.1 (.int .i64 1)).bind fun v14 =>
  .ok (v14, q13.2))
  (.ok (undefA, q13.2))).bind fun q15 =>
  (guardEv (some (.val v5)) true
  ((M.indexSl 6 q8.1 q15.1).bind fun v16 =>
  .ok (v16, q15.2))
  (.ok (undefA, q15.2))).bind fun q17 =>
  (guardEv (some (.val v5)) true
  ((M.load true 6 q17.1 q17.2).bind fun v18 =>
  .ok (v18, q17.2))
  (.ok (undefA, q17.2))).bind fun q19 =>
  (guardEv (some (.val v5)) true
  ((Γ 74 [q19.1] q19.2).bind fun r20 =>
  .ok (r20.1, r20.2))
  (.ok (undefA, q19.2))).bind fun q21 =>
  (M.pick v5 q21.1 (.bool false)).bind fun v22 =>
  .ok (gc v22 H q21.2)) fun j23 =>
  condEv (.bool ((p0_0 == 49)))
  ((M.len false p0_4).bind fun v24 =>
  (M.bin Tryz.prog .eql 3 (.tmp 9) (.const (.int .i64 2)) v24 (.int .i64 2)).bind fun v25 =>
  condEv v25
  (.ok (gc (.bool true) H H.start))
  (j23 ([], [(1, [(.int .i64 p0_0), (.str p0_1), (.int .u32 p0_2), (.bool p0_3), p0_4, (.int .i64 p0_5)])], H.start)))
  (condEv (.bool ((p0_0 == 50)))
  (condEv (.bool ((p0_0 == 50)))
  (j23 ([], [(1, [(.int .i64 p0_0), (.str p0_1), (.int .u32 p0_2), (.bool p0_3), p0_4, (.int .i64 p0_5)])], H.start))
  (.ok (gc (.bool false) H H.start)))
  (condEv (.bool ((p0_0 == 52)))
  (j23 ([], [(1, [(.int .i64 p0_0), (.str p0_1), (.int .u32 p0_2), (.bool p0_3), p0_4, (.int .i64 p0_5)])], H.start))
  (.ok (gc (.bool false) H H.start))))
theorem u74 {glob : Nat → Option (List AV)} {prim : Nat → Option (List AV → Heap → Out (AV × Heap))} (hp : prim 74 = none) (Γ : CallsT) (lp : LoopT Ans) (p0_0 : Int) (p0_1 : (List UInt8)) (p0_2 : Int) (p0_3 : Bool) (p0_4 : AV) (p0_5 : Int) (H : Heap) : runF (X0 glob prim) lp Γ 74 [(.agg [(.int .i64 p0_0), (.str p0_1), (.int .u32 p0_2), (.bool p0_3), p0_4, (.int .i64 p0_5)])] H = g74 Γ lp p0_0 p0_1 p0_2 p0_3 p0_4 p0_5 H :=
  (runF_run hp (show trieF.get 74 = some Tryz.f74 by kernel_rfl) (by kernel_rfl) (by kernel_rfl)).trans (by kernel_rfl)
theorem c74 {glob : Nat → Option (List AV)} {prim : Nat → Option (List AV → Heap → Out (AV × Heap))} (hp : prim 74 = none) (p0_0 : Int) (p0_1 : (List UInt8)) (p0_2 : Int) (p0_3 : Bool) (p0_4 : AV) (p0_5 : Int) (H : Heap) {r : Ans} (h : g74 (callW (X0 glob prim)) loopW p0_0 p0_1 p0_2 p0_3 p0_4 p0_5 H = .ok r) : callW (X0 glob prim) 74 [(.agg [(.int .i64 p0_0), (.str p0_1), (.int .u32 p0_2), (.bool p0_3), p0_4, (.int .i64 p0_5)])] H = .ok r := callW_of ((u74 hp ..).trans h)
/- crucible/ast.perhaps -/
noncomputable def g75 (Γ : CallsT) (lp : LoopT Ans) (p0_0 : Int) (p0_1 : (List UInt8)) (p0_2 : Int) (p0_3 : Bool) (p0_4 : AV) (p0_5 : Int) (H : Heap) : Out Ans :=
  (guardEv (some (.val (.bool ((p0_0 == 56))))) false
  (.ok ((.agg [(.int .i64 p0_0), (.str p0_1), (.int .u32 p0_2), (.bool p0_3), p0_4, (.int .i64 p0_5)]), H.start))
  (.ok (undefA, H.start))).bind fun q1 =>
  (guardEv (some (.val (.bool ((p0_0 == 56))))) false
  ((Γ 47 [q1.1] q1.2).bind fun r2 =>
  .ok (r2.1, r2.2))
  (.ok (undefA, q1.2))).bind fun q3 =>
  (M.pick (.bool ((p0_0 == 56))) (.bool true) q3.1).bind fun v4 =>
  .ok (gc v4 H q3.2)
theorem u75 {glob : Nat → Option (List AV)} {prim : Nat → Option (List AV → Heap → Out (AV × Heap))} (hp : prim 75 = none) (Γ : CallsT) (lp : LoopT Ans) (p0_0 : Int) (p0_1 : (List UInt8)) (p0_2 : Int) (p0_3 : Bool) (p0_4 : AV) (p0_5 : Int) (H : Heap) : runF (X0 glob prim) lp Γ 75 [(.agg [(.int .i64 p0_0), (.str p0_1), (.int .u32 p0_2), (.bool p0_3), p0_4, (.int .i64 p0_5)])] H = g75 Γ lp p0_0 p0_1 p0_2 p0_3 p0_4 p0_5 H :=
  (runF_run hp (show trieF.get 75 = some Tryz.f75 by kernel_rfl) (by kernel_rfl) (by kernel_rfl)).trans (by kernel_rfl)
theorem c75 {glob : Nat → Option (List AV)} {prim : Nat → Option (List AV → Heap → Out (AV × Heap))} (hp : prim 75 = none) (p0_0 : Int) (p0_1 : (List UInt8)) (p0_2 : Int) (p0_3 : Bool) (p0_4 : AV) (p0_5 : Int) (H : Heap) {r : Ans} (h : g75 (callW (X0 glob prim)) loopW p0_0 p0_1 p0_2 p0_3 p0_4 p0_5 H = .ok r) : callW (X0 glob prim) 75 [(.agg [(.int .i64 p0_0), (.str p0_1), (.int .u32 p0_2), (.bool p0_3), p0_4, (.int .i64 p0_5)])] H = .ok r := callW_of ((u75 hp ..).trans h)
/- crucible/ast.declarations$1 -/
noncomputable def g76 (Γ : CallsT) (lp : LoopT Ans) (p0_0 : Int) (p0_1 : (List UInt8)) (p0_2 : Int) (p0_3 : Bool) (p0_4 : AV) (p0_5 : Int) (H : Heap) : Out Ans :=
  (guardEv (some (.val (.bool ((p0_0 == 41))))) false
  (.ok ((.int .i64 p0_0), H.start))
  (.ok (undefA, H.start))).bind fun q1 =>
  (guardEv (some (.val (.bool ((p0_0 == 41))))) false
  ((M.bin Tryz.prog .eql 3 (.tmp 8) (.const (.int .i64 42)) q1.1 (.int .i64 42)).bind fun v2 =>
  .ok (v2, q1.2))
  (.ok (undefA, q1.2))).bind fun q3 =>
  (M.pick (.bool ((p0_0 == 41))) (.bool true) q3.1).bind fun v4 =>
  (guardEv (some (.val v4)) false
  (.ok ((.int .i64 p0_0), q3.2))
  (.ok (undefA, q3.2))).bind fun q5 =>
  (guardEv (some (.val v4)) false
  ((M.bin Tryz.prog .eql 3 (.tmp 13) (.const (.int .i64 45)) q5.1 (.int .i64 45)).bind fun v6 =>
  .ok (v6, q5.2))
  (.ok (undefA, q5.2))).bind fun q7 =>
  (M.pick v4 (.bool true) q7.1).bind fun v8 =>
  .ok (gc v8 H q7.2)
theorem u76 {glob : Nat → Option (List AV)} {prim : Nat → Option (List AV → Heap → Out (AV × Heap))} (hp : prim 76 = none) (Γ : CallsT) (lp : LoopT Ans) (p0_0 : Int) (p0_1 : (List UInt8)) (p0_2 : Int) (p0_3 : Bool) (p0_4 : AV) (p0_5 : Int) (H : Heap) : runF (X0 glob prim) lp Γ 76 [(.agg [(.int .i64 p0_0), (.str p0_1), (.int .u32 p0_2), (.bool p0_3), p0_4, (.int .i64 p0_5)])] H = g76 Γ lp p0_0 p0_1 p0_2 p0_3 p0_4 p0_5 H :=
  (runF_run hp (show trieF.get 76 = some Tryz.f76 by kernel_rfl) (by kernel_rfl) (by kernel_rfl)).trans (by kernel_rfl)
theorem c76 {glob : Nat → Option (List AV)} {prim : Nat → Option (List AV → Heap → Out (AV × Heap))} (hp : prim 76 = none) (p0_0 : Int) (p0_1 : (List UInt8)) (p0_2 : Int) (p0_3 : Bool) (p0_4 : AV) (p0_5 : Int) (H : Heap) {r : Ans} (h : g76 (callW (X0 glob prim)) loopW p0_0 p0_1 p0_2 p0_3 p0_4 p0_5 H = .ok r) : callW (X0 glob prim) 76 [(.agg [(.int .i64 p0_0), (.str p0_1), (.int .u32 p0_2), (.bool p0_3), p0_4, (.int .i64 p0_5)])] H = .ok r := callW_of ((u76 hp ..).trans h)
/- crucible/ast.bare -/
noncomputable def g77 (Γ : CallsT) (lp : LoopT Ans) (p0_0 : Int) (p0_1 : (List UInt8)) (p0_2 : Int) (p0_3 : Bool) (p0_4 : AV) (p0_5 : Int) (H : Heap) : Out Ans :=
  (guardEv (some (.val (.bool ((p0_0 == 42))))) true
  (.ok (p0_4, H.start))
  (.ok (undefA, H.start))).bind fun q1 =>
  (guardEv (some (.val (.bool ((p0_0 == 42))))) true
  ((Γ 29 [q1.1, (.fn (.func 101) [] [])] q1.2).bind fun r2 =>
  .ok (r2.1, r2.2))
  (.ok (undefA, q1.2))).bind fun q3 =>
  (M.pick (.bool ((p0_0 == 42))) q3.1 (.bool false)).bind fun v4 =>
  .ok (gc v4 H q3.2)
theorem u77 {glob : Nat → Option (List AV)} {prim : Nat → Option (List AV → Heap → Out (AV × Heap))} (hp : prim 77 = none) (Γ : CallsT) (lp : LoopT Ans) (p0_0 : Int) (p0_1 : (List UInt8)) (p0_2 : Int) (p0_3 : Bool) (p0_4 : AV) (p0_5 : Int) (H : Heap) : runF (X0 glob prim) lp Γ 77 [(.agg [(.int .i64 p0_0), (.str p0_1), (.int .u32 p0_2), (.bool p0_3), p0_4, (.int .i64 p0_5)])] H = g77 Γ lp p0_0 p0_1 p0_2 p0_3 p0_4 p0_5 H :=
  (runF_run hp (show trieF.get 77 = some Tryz.f77 by kernel_rfl) (by kernel_rfl) (by kernel_rfl)).trans (by kernel_rfl)
theorem c77 {glob : Nat → Option (List AV)} {prim : Nat → Option (List AV → Heap → Out (AV × Heap))} (hp : prim 77 = none) (p0_0 : Int) (p0_1 : (List UInt8)) (p0_2 : Int) (p0_3 : Bool) (p0_4 : AV) (p0_5 : Int) (H : Heap) {r : Ans} (h : g77 (callW (X0 glob prim)) loopW p0_0 p0_1 p0_2 p0_3 p0_4 p0_5 H = .ok r) : callW (X0 glob prim) 77 [(.agg [(.int .i64 p0_0), (.str p0_1), (.int .u32 p0_2), (.bool p0_3), p0_4, (.int .i64 p0_5)])] H = .ok r := callW_of ((u77 hp ..).trans h)
/- crucible/ast.variable -/
noncomputable def g78 (Γ : CallsT) (lp : LoopT Ans) (p0_0 : Int) (p0_1 : (List UInt8)) (p0_2 : Int) (p0_3 : Bool) (p0_4 : AV) (p0_5 : Int) (H : Heap) : Out Ans :=
  jn (fun s1 =>
  (M.len false (s1.1.getD 0 undefA)).bind fun v2 =>
  (M.bin Tryz.prog .eql 3 (.tmp 21) (.const (.int .i64 0)) v2 (.int .i64 0)).bind fun v3 =>
  (guardEv (some (.val v3)) false
  (.ok ((s1.1.getD 0 undefA), s1.2.2))
  (.ok (undefA, s1.2.2))).bind fun q4 =>
  (guardEv (some (.val v3)) false
  ((M.len false q4.1).bind fun v5 =>
  .ok (v5, q4.2))
  (.ok (undefA, q4.2))).bind fun q6 =>
  (guardEv (some (.val v3)) false
  ((M.bin Tryz.prog .eql 3 (.tmp 25) (.const (.int .i64 1)) q6.1 (.int .i64 1)).bind fun v7 =>
  .ok (v7, q6.2))
  (.ok (undefA, q6.2))).bind fun q8 =>
  (guardEv (some (.val v3)) false
  (.ok (q8.1, q8.2))
  (.ok (undefA, q8.2))).bind fun q9 =>
  (guardEv (some (.val q9.1)) true
  (.ok ((s1.1.getD 0 undefA), q9.2))
  (.ok (undefA, q9.2))).bind fun q10 =>
  (guardEv (some (.val q9.1)) true
  ((M.indexSl 6 q10.1 (.int .i64 0)).bind fun v11 =>
  .ok (v11, q10.2))
  (.ok (undefA, q10.2))).bind fun q12 =>
  (guardEv (some (.val q9.1)) true
  ((M.load true 6 q12.1 q12.2).bind fun v13 =>
  .ok (v13, q12.2))
  (.ok (undefA, q12.2))).bind fun q14 =>
  (guardEv (some (.val q9.1)) true
  ((Γ 47 [q14.1] q14.2).bind fun r15 =>
  .ok (r15.1, r15.2))
  (.ok (undefA, q14.2))).bind fun q16 =>
  (guardEv (some (.val q9.1)) true
  (.ok (q16.1, q16.2))
  (.ok (undefA, q16.2))).bind fun q17 =>
  (guardEv (some (.val q17.1)) false
  (onO (Locs.find s1.2.1 1) fun cs18 =>
  (M.ldc false 1 cs18 3).bind fun v19 =>
  .ok (v19, q17.2))
  (.ok (undefA, q17.2))).bind fun q20 =>
  (guardEv (some (.val q17.1)) false
  (.ok (q20.1, q20.2))
  (.ok (undefA, q20.2))).bind fun q21 =>
  (guardEv (some (.val q21.1)) true
  (.ok ((s1.1.getD 0 undefA), q21.2))
  (.ok (undefA, q21.2))).bind fun q22 =>
  (guardEv (some (.val q21.1)) true
  ((M.indexSl 6 q22.1 (.int .i64 0)).bind fun v23 =>
  .ok (v23, q22.2))
  (.ok (undefA, q22.2))).bind fun q24 =>
  (guardEv (some (.val q21.1)) true
  ((M.fieldAddr 0 q24.1).bind fun v25 =>
  .ok (v25, q24.2))
  (.ok (undefA, q24.2))).bind fun q26 =>
  (guardEv (some (.val q21.1)) true
  ((M.load false 1 q26.1 q26.2).bind fun v27 =>
  .ok (v27, q26.2))
  (.ok (undefA, q26.2))).bind fun q28 =>
  (guardEv (some (.val q21.1)) true
  ((M.bin Tryz.prog .eql 3 (.tmp 39) (.const (.int .i64 44)) q28.1 (.int .i64 44)).bind fun v29 =>
  .ok (v29, q28.2))
  (.ok (undefA, q28.2))).bind fun q30 =>
  (guardEv (some (.val q17.1)) false
  ((M.pick q21.1 q30.1 (.bool false)).bind fun v31 =>
  .ok (v31, q30.2))
  (.ok (undefA, q30.2))).bind fun q32 =>
  (guardEv (some (.val q9.1)) true
  ((M.pick q17.1 (.bool true) q32.1).bind fun v33 =>
  .ok (v33, q32.2))
  (.ok (undefA, q32.2))).bind fun q34 =>
  (guardEv (some (.val v3)) false
  ((M.pick q9.1 q34.1 (.bool false)).bind fun v35 =>
  .ok (v35, q34.2))
  (.ok (undefA, q34.2))).bind fun q36 =>
  (M.pick v3 (.bool true) q36.1).bind fun v37 =>
  .ok (gc v37 H q36.2)) fun j38 =>
  condEv (.bool p0_3)
  ((M.len false p0_4).bind fun v39 =>
  (M.bin Tryz.prog .eql 3 (.tmp 9) (.const (.int .i64 0)) v39 (.int .i64 0)).bind fun v40 =>
  (guardEv (some (.val v40)) false
  (.ok (p0_4, H.start))
  (.ok (undefA, H.start))).bind fun q41 =>
  (guardEv (some (.val v40)) false
  ((M.indexSl 6 q41.1 (.int .i64 0)).bind fun v42 =>
  .ok (v42, q41.2))
  (.ok (undefA, q41.2))).bind fun q43 =>
  (guardEv (some (.val v40)) false
  ((M.load true 6 q43.1 q43.2).bind fun v44 =>
  .ok (v44, q43.2))
  (.ok (undefA, q43.2))).bind fun q45 =>
  (guardEv (some (.val v40)) false
  ((Γ 75 [q45.1] q45.2).bind fun r46 =>
  .ok (r46.1, r46.2))
  (.ok (undefA, q45.2))).bind fun q47 =>
  (guardEv (some (.val v40)) false
  ((M.un .not q47.1).bind fun v48 =>
  .ok (v48, q47.2))
  (.ok (undefA, q47.2))).bind fun q49 =>
  (M.pick v40 (.bool true) q49.1).bind fun v50 =>
  condEv v50
  (.ok (gc (.bool false) H q49.2))
  ((M.sliceSl 6 p0_4 (some (.int .i64 1)) none).bind fun v51 =>
  j38 ([v51], [(1, [(.int .i64 p0_0), (.str p0_1), (.int .u32 p0_2), (.bool p0_3), p0_4, (.int .i64 p0_5)])], q49.2)))
  (j38 ([p0_4], [(1, [(.int .i64 p0_0), (.str p0_1), (.int .u32 p0_2), (.bool p0_3), p0_4, (.int .i64 p0_5)])], H.start))
theorem u78 {glob : Nat → Option (List AV)} {prim : Nat → Option (List AV → Heap → Out (AV × Heap))} (hp : prim 78 = none) (Γ : CallsT) (lp : LoopT Ans) (p0_0 : Int) (p0_1 : (List UInt8)) (p0_2 : Int) (p0_3 : Bool) (p0_4 : AV) (p0_5 : Int) (H : Heap) : runF (X0 glob prim) lp Γ 78 [(.agg [(.int .i64 p0_0), (.str p0_1), (.int .u32 p0_2), (.bool p0_3), p0_4, (.int .i64 p0_5)])] H = g78 Γ lp p0_0 p0_1 p0_2 p0_3 p0_4 p0_5 H :=
  (runF_run hp (show trieF.get 78 = some Tryz.f78 by kernel_rfl) (by kernel_rfl) (by kernel_rfl)).trans (by kernel_rfl)
theorem c78 {glob : Nat → Option (List AV)} {prim : Nat → Option (List AV → Heap → Out (AV × Heap))} (hp : prim 78 = none) (p0_0 : Int) (p0_1 : (List UInt8)) (p0_2 : Int) (p0_3 : Bool) (p0_4 : AV) (p0_5 : Int) (H : Heap) {r : Ans} (h : g78 (callW (X0 glob prim)) loopW p0_0 p0_1 p0_2 p0_3 p0_4 p0_5 H = .ok r) : callW (X0 glob prim) 78 [(.agg [(.int .i64 p0_0), (.str p0_1), (.int .u32 p0_2), (.bool p0_3), p0_4, (.int .i64 p0_5)])] H = .ok r := callW_of ((u78 hp ..).trans h)
/- crucible/ast.function -/
noncomputable def g79 (Γ : CallsT) (lp : LoopT Ans) (p0 : AV) (H : Heap) : Out Ans :=
  (M.len false p0).bind fun v1 =>
  (M.bin Tryz.prog .sub 3 (.tmp 5) (.const (.int .i64 1)) v1 (.int .i64 1)).bind fun v2 =>
  (M.bin Tryz.prog .geq 3 (.tmp 7) (.const (.int .i64 1)) v2 (.int .i64 1)).bind fun v3 =>
  (guardEv (some (.val v3)) true
  (.ok (p0, H.start))
  (.ok (undefA, H.start))).bind fun q4 =>
  (guardEv (some (.val v3)) true
  ((M.indexSl 6 q4.1 (.int .i64 0)).bind fun v5 =>
  .ok (v5, q4.2))
  (.ok (undefA, q4.2))).bind fun q6 =>
  (guardEv (some (.val v3)) true
  ((M.fieldAddr 0 q6.1).bind fun v7 =>
  .ok (v7, q6.2))
  (.ok (undefA, q6.2))).bind fun q8 =>
  (guardEv (some (.val v3)) true
  ((M.load false 1 q8.1 q8.2).bind fun v9 =>
  .ok (v9, q8.2))
  (.ok (undefA, q8.2))).bind fun q10 =>
  (guardEv (some (.val v3)) true
  ((M.bin Tryz.prog .eql 3 (.tmp 13) (.const (.int .i64 16)) q10.1 (.int .i64 16)).bind fun v11 =>
  .ok (v11, q10.2))
  (.ok (undefA, q10.2))).bind fun q12 =>
  (M.pick v3 q12.1 (.bool false)).bind fun v13 =>
  (guardEv (some (.val v13)) true
  (.ok (p0, q12.2))
  (.ok (undefA, q12.2))).bind fun q14 =>
  (guardEv (some (.val v13)) true
  (.ok (v2, q14.2))
  (.ok (undefA, q14.2))).bind fun q15 =>
  (guardEv (some (.val v13)) true
  ((M.indexSl 6 q14.1 q15.1).bind fun v16 =>
  .ok (v16, q15.2))
  (.ok (undefA, q15.2))).bind fun q17 =>
  (guardEv (some (.val v13)) true
  ((M.fieldAddr 0 q17.1).bind fun v18 =>
  .ok (v18, q17.2))
  (.ok (undefA, q17.2))).bind fun q19 =>
  (guardEv (some (.val v13)) true
  ((M.load false 1 q19.1 q19.2).bind fun v20 =>
  .ok (v20, q19.2))
  (.ok (undefA, q19.2))).bind fun q21 =>
  (guardEv (some (.val v13)) true
  ((M.bin Tryz.prog .eql 3 (.tmp 21) (.const (.int .i64 47)) q21.1 (.int .i64 47)).bind fun v22 =>
  .ok (v22, q21.2))
  (.ok (undefA, q21.2))).bind fun q23 =>
  (M.pick v13 q23.1 (.bool false)).bind fun v24 =>
  (guardEv (some (.val v24)) true
  (.ok (p0, q23.2))
  (.ok (undefA, q23.2))).bind fun q25 =>
  (guardEv (some (.val v24)) true
  (.ok (v2, q25.2))
  (.ok (undefA, q25.2))).bind fun q26 =>
  (guardEv (some (.val v24)) true
  ((M.sliceSl 6 q25.1 (some (.int .i64 1)) (some q26.1)).bind fun v27 =>
  .ok (v27, q26.2))
  (.ok (undefA, q26.2))).bind fun q28 =>
  (guardEv (some (.val v24)) true
  ((Γ 70 [(.int .i64 46)] q28.2).bind fun r29 =>
  .ok (r29.1, r29.2))
  (.ok (undefA, q28.2))).bind fun q30 =>
  (guardEv (some (.val v24)) true
  ((Γ 29 [q28.1, q30.1] q30.2).bind fun r31 =>
  .ok (r31.1, r31.2))
  (.ok (undefA, q30.2))).bind fun q32 =>
  (M.pick v24 q32.1 (.bool false)).bind fun v33 =>
  .ok (gc v33 H q32.2)
theorem u79 {glob : Nat → Option (List AV)} {prim : Nat → Option (List AV → Heap → Out (AV × Heap))} (hp : prim 79 = none) (Γ : CallsT) (lp : LoopT Ans) (p0 : AV) (H : Heap) : runF (X0 glob prim) lp Γ 79 [p0] H = g79 Γ lp p0 H :=
  (runF_run hp (show trieF.get 79 = some Tryz.f79 by kernel_rfl) (by kernel_rfl) (by kernel_rfl)).trans (by kernel_rfl)
theorem c79 {glob : Nat → Option (List AV)} {prim : Nat → Option (List AV → Heap → Out (AV × Heap))} (hp : prim 79 = none) (p0 : AV) (H : Heap) {r : Ans} (h : g79 (callW (X0 glob prim)) loopW p0 H = .ok r) : callW (X0 glob prim) 79 [p0] H = .ok r := callW_of ((u79 hp ..).trans h)
/- slices.IndexFunc[[]crucible/api.Node,crucible/api.Node] -/
noncomputable def g80_l2 (Γ : CallsT) (lp : LoopT Ans) (H : Heap) : LS → (LS → Out Ans) → Out Ans := fun s2 a3 =>
  (M.bin Tryz.prog .lss 3 (.tmp 8) (.tmp 7) (s2.1.getD 3 undefA) (s2.1.getD 2 undefA)).bind fun v4 =>
  condEv v4
  ((M.indexSl 6 (s2.1.getD 0 undefA) (s2.1.getD 3 undefA)).bind fun v5 =>
  (M.load true 6 v5 s2.2.2).bind fun v6 =>
  callV Γ (s2.1.getD 1 undefA) [v6] s2.2.2 fun v7 h8 =>
  condEv v7
  (.ok (gc (s2.1.getD 3 undefA) H h8))
  ((M.bin Tryz.prog .add 3 (.tmp 8) (.const (.int .i64 1)) (s2.1.getD 3 undefA) (.int .i64 1)).bind fun v9 =>
  a3 ([(s2.1.getD 0 undefA), (s2.1.getD 1 undefA), (s2.1.getD 2 undefA), v9], s2.2.1, h8)))
  (.ok (gc (.int .i64 (-1)) H s2.2.2))
noncomputable def g80 (Γ : CallsT) (lp : LoopT Ans) (p0 : AV) (p1 : AV) (H : Heap) : Out Ans :=
  (M.len false p0).bind fun v1 =>
  lp (g80_l2 Γ lp H) ([p0, p1, v1, (.int .i64 0)], [], H.start)
theorem u80 {glob : Nat → Option (List AV)} {prim : Nat → Option (List AV → Heap → Out (AV × Heap))} (hp : prim 80 = none) (Γ : CallsT) (lp : LoopT Ans) (p0 : AV) (p1 : AV) (H : Heap) : runF (X0 glob prim) lp Γ 80 [p0, p1] H = g80 Γ lp p0 p1 H :=
  (runF_run hp (show trieF.get 80 = some Tryz.f80 by kernel_rfl) (by kernel_rfl) (by kernel_rfl)).trans (by kernel_rfl)
theorem c80 {glob : Nat → Option (List AV)} {prim : Nat → Option (List AV → Heap → Out (AV × Heap))} (hp : prim 80 = none) (p0 : AV) (p1 : AV) (H : Heap) {r : Ans} (h : g80 (callW (X0 glob prim)) loopW p0 p1 H = .ok r) : callW (X0 glob prim) 80 [p0, p1] H = .ok r := callW_of ((u80 hp ..).trans h)
/- crucible/ast.level -/
noncomputable def g81 (Γ : CallsT) (lp : LoopT Ans) (p0_0 : Int) (p0_1 : (List UInt8)) (p0_2 : Int) (p0_3 : Bool) (p0_4 : AV) (p0_5 : Int) (H : Heap) : Out Ans :=
  condEv (.bool ((p0_0 == 13)))
  (.ok (gc (.int .i64 0) H H.start))
  (condEv (.bool ((p0_0 == 12)))
  (.ok (gc (.int .i64 1) H H.start))
  (jn (fun s1 =>
  condEv (s1.1.getD 1 undefA)
  (onO (Locs.find s1.2.1 1) fun cs2 =>
  (M.ldc false 1 cs2 1).bind fun v3 =>
  (Γ 102 [v3] s1.2.2).bind fun r4 =>
  .ok (gc r4.1 H r4.2))
  (jn (fun s5 =>
  condEv (s5.1.getD 0 undefA)
  (.ok (gc (.int .i64 12) H s5.2.2))
  (.ok (gc (.int .i64 13) H s5.2.2))) fun j6 =>
  (M.bin Tryz.prog .eql 3 (.tmp 4) (.const (.int .i64 9)) (s1.1.getD 0 undefA) (.int .i64 9)).bind fun v7 =>
  condEv v7
  (j6 ([v7], s1.2.1, s1.2.2))
  ((M.bin Tryz.prog .eql 3 (.tmp 4) (.const (.int .i64 14)) (s1.1.getD 0 undefA) (.int .i64 14)).bind fun v8 =>
  condEv v8
  (j6 ([v8], s1.2.1, s1.2.2))
  ((M.bin Tryz.prog .eql 3 (.tmp 4) (.const (.int .i64 15)) (s1.1.getD 0 undefA) (.int .i64 15)).bind fun v9 =>
  j6 ([v9], s1.2.1, s1.2.2))))) fun j10 =>
  condEv (.bool ((p0_0 == 10)))
  (j10 ([(.int .i64 p0_0), (.bool ((p0_0 == 10)))], [(1, [(.int .i64 p0_0), (.str p0_1), (.int .u32 p0_2), (.bool p0_3), p0_4, (.int .i64 p0_5)])], H.start))
  (j10 ([(.int .i64 p0_0), (.bool ((p0_0 == 11)))], [(1, [(.int .i64 p0_0), (.str p0_1), (.int .u32 p0_2), (.bool p0_3), p0_4, (.int .i64 p0_5)])], H.start))))
theorem u81 {glob : Nat → Option (List AV)} {prim : Nat → Option (List AV → Heap → Out (AV × Heap))} (hp : prim 81 = none) (Γ : CallsT) (lp : LoopT Ans) (p0_0 : Int) (p0_1 : (List UInt8)) (p0_2 : Int) (p0_3 : Bool) (p0_4 : AV) (p0_5 : Int) (H : Heap) : runF (X0 glob prim) lp Γ 81 [(.agg [(.int .i64 p0_0), (.str p0_1), (.int .u32 p0_2), (.bool p0_3), p0_4, (.int .i64 p0_5)])] H = g81 Γ lp p0_0 p0_1 p0_2 p0_3 p0_4 p0_5 H :=
  (runF_run hp (show trieF.get 81 = some Tryz.f81 by kernel_rfl) (by kernel_rfl) (by kernel_rfl)).trans (by kernel_rfl)
theorem c81 {glob : Nat → Option (List AV)} {prim : Nat → Option (List AV → Heap → Out (AV × Heap))} (hp : prim 81 = none) (p0_0 : Int) (p0_1 : (List UInt8)) (p0_2 : Int) (p0_3 : Bool) (p0_4 : AV) (p0_5 : Int) (H : Heap) {r : Ans} (h : g81 (callW (X0 glob prim)) loopW p0_0 p0_1 p0_2 p0_3 p0_4 p0_5 H = .ok r) : callW (X0 glob prim) 81 [(.agg [(.int .i64 p0_0), (.str p0_1), (.int .u32 p0_2), (.bool p0_3), p0_4, (.int .i64 p0_5)])] H = .ok r := callW_of ((u81 hp ..).trans h)
/- (*crucible/ast.printer).expression -/
noncomputable def g82 (Γ : CallsT) (lp : LoopT Ans) (p0 : AV) (p1_0 : Int) (p1_1 : (List UInt8)) (p1_2 : Int) (p1_3 : Bool) (p1_4 : AV) (p1_5 : Int) (H : Heap) : Out Ans :=
  (Γ 103 [p0, (.agg [(.int .i64 p1_0), (.str p1_1), (.int .u32 p1_2), (.bool p1_3), p1_4, (.int .i64 p1_5)])] H.start).bind fun r1 =>
  condEv r1.1
  (.ok (gc (.tup []) H r1.2))
  (condEv (.bool ((p1_0 == 9)))
  ((Γ 31 [p0, (.isl 1 [(.str p1_1)])] r1.2).bind fun r2 =>
  (M.nilCheck p0).bind fun v3 =>
  (M.fieldAddr 0 v3).bind fun v4 =>
  (M.load false 1 v4 r2.2).bind fun v5 =>
  (M.len false v5).bind fun v6 =>
  (M.indexSl 6 p1_4 (.int .i64 0)).bind fun v7 =>
  (M.load true 6 v7 r2.2).bind fun v8 =>
  (Γ 54 [p0, v8, (.int .i64 12)] r2.2).bind fun r9 =>
  (M.nilCheck p0).bind fun v10 =>
  (M.fieldAddr 0 v10).bind fun v11 =>
  (M.load false 1 v11 r9.2).bind fun v12 =>
  (M.indexSl 1 v12 v6).bind fun v13 =>
  (M.load false 1 v13 r9.2).bind fun v14 =>
  (M.indexStr (.str p1_1) (.int .i64 0)).bind fun v15 =>
  (M.bin Tryz.prog .eql 5 (.tmp 36) (.tmp 39) v14 v15).bind fun v16 =>
  condEv v16
  ((M.nilCheck p0).bind fun v17 =>
  (M.fieldAddr 0 v17).bind fun v18 =>
  (M.load false 1 v18 r9.2).bind fun v19 =>
  let h20 : Heap := (r9.2).alloc (.cells 5 [(.int .u8 32)])
  (Γ 104 [v19, v6, (.sl (r9.2).n 0 1 1)] h20).bind fun r21 =>
  (M.nilCheck p0).bind fun v22 =>
  (M.fieldAddr 0 v22).bind fun v23 =>
  (M.store 1 v23 r21.1 r21.2).bind fun h24 =>
  .ok (gc (.tup []) H h24))
  (.ok (gc (.tup []) H r9.2)))
  (condEv (.bool ((p1_0 == 14)))
  ((M.indexSl 6 p1_4 (.int .i64 0)).bind fun v25 =>
  (M.fieldAddr 1 v25).bind fun v26 =>
  (M.load false 1 v26 r1.2).bind fun v27 =>
  (M.fill (fun i => some (i * 1, 1)) [(.str []), (.str []), (.str [])] [(0, (.str [40])), (1, v27), (2, (.str [41]))]).bind fun cs28 =>
  (Γ 31 [p0, (.isl 1 (chunks false 1 3 cs28))] r1.2).bind fun r29 =>
  (M.indexSl 6 p1_4 (.int .i64 1)).bind fun v30 =>
  (M.load true 6 v30 r29.2).bind fun v31 =>
  (Γ 54 [p0, v31, (.int .i64 12)] r29.2).bind fun r32 =>
  .ok (gc (.tup []) H r32.2))
  (condEv (.bool ((p1_0 == 15)))
  ((M.indexSl 6 p1_4 (.int .i64 0)).bind fun v33 =>
  (M.load true 6 v33 r1.2).bind fun v34 =>
  (M.stc 6 [(.int .i64 0), (.str []), (.int .u32 0), (.bool false), nilSlice, (.int .i64 0)] 0 v34).bind fun cs35 =>
  (M.ldc false 1 cs35 0).bind fun v36 =>
  (M.bin Tryz.prog .eql 3 (.tmp 74) (.const (.int .i64 16)) v36 (.int .i64 16)).bind fun v37 =>
  condEv v37
  ((M.ldc false 1 cs35 1).bind fun v38 =>
  (M.fill (fun i => some (i * 1, 1)) [(.str []), (.str []), (.str [])] [(0, (.str [115, 105, 122, 101, 111, 102, 40])), (1, v38), (2, (.str [41]))]).bind fun cs39 =>
  (Γ 31 [p0, (.isl 1 (chunks false 1 3 cs39))] r1.2).bind fun r40 =>
  .ok (gc (.tup []) H r40.2))
  ((M.bin Tryz.prog .eql 3 (.tmp 74) (.const (.int .i64 14)) v36 (.int .i64 14)).bind fun v41 =>
  condEv v41
  ((Γ 31 [p0, (.isl 1 [(.str [115, 105, 122, 101, 111, 102, 32, 40])])] r1.2).bind fun r42 =>
  (M.ldc true 6 cs35 0).bind fun v43 =>
  (Γ 82 [p0, v43] r42.2).bind fun r44 =>
  (Γ 31 [p0, (.isl 1 [(.str [41])])] r44.2).bind fun r45 =>
  .ok (gc (.tup []) H r45.2))
  ((Γ 31 [p0, (.isl 1 [(.str [115, 105, 122, 101, 111, 102, 32])])] r1.2).bind fun r46 =>
  (M.ldc true 6 cs35 0).bind fun v47 =>
  (Γ 54 [p0, v47, (.int .i64 12)] r46.2).bind fun r48 =>
  .ok (gc (.tup []) H r48.2))))
  (jn (fun s49 =>
  condEv (s49.1.getD 2 undefA)
  (onO (Locs.find s49.2.1 3) fun cs50 =>
  (M.ldc false 1 cs50 1).bind fun v51 =>
  (Γ 102 [v51] s49.2.2).bind fun r52 =>
  onO (Locs.find s49.2.1 3) fun cs53 =>
  (M.ldc false 1 cs53 4).bind fun v54 =>
  (M.indexSl 6 v54 (.int .i64 0)).bind fun v55 =>
  (M.load true 6 v55 r52.2).bind fun v56 =>
  (Γ 54 [(s49.1.getD 0 undefA), v56, r52.1] r52.2).bind fun r57 =>
  onO (Locs.find s49.2.1 3) fun cs58 =>
  (M.ldc false 1 cs58 1).bind fun v59 =>
  (M.fill (fun i => some (i * 1, 1)) [(.str []), (.str []), (.str [])] [(0, (.str [32])), (1, v59), (2, (.str [32]))]).bind fun cs60 =>
  (Γ 31 [(s49.1.getD 0 undefA), (.isl 1 (chunks false 1 3 cs60))] r57.2).bind fun r61 =>
  onO (Locs.find s49.2.1 3) fun cs62 =>
  (M.ldc false 1 cs62 4).bind fun v63 =>
  (M.indexSl 6 v63 (.int .i64 1)).bind fun v64 =>
  (M.load true 6 v64 r61.2).bind fun v65 =>
  (M.bin Tryz.prog .add 3 (.tmp 122) (.const (.int .i64 1)) r52.1 (.int .i64 1)).bind fun v66 =>
  (Γ 54 [(s49.1.getD 0 undefA), v65, v66] r61.2).bind fun r67 =>
  .ok (gc (.tup []) H r67.2))
  ((M.bin Tryz.prog .eql 3 (.tmp 11) (.const (.int .i64 12)) (s49.1.getD 1 undefA) (.int .i64 12)).bind fun v68 =>
  condEv v68
  (onO (Locs.find s49.2.1 3) fun cs69 =>
  (M.ldc false 1 cs69 4).bind fun v70 =>
  (M.indexSl 6 v70 (.int .i64 0)).bind fun v71 =>
  (M.load true 6 v71 s49.2.2).bind fun v72 =>
  (Γ 54 [(s49.1.getD 0 undefA), v72, (.int .i64 2)] s49.2.2).bind fun r73 =>
  (Γ 31 [(s49.1.getD 0 undefA), (.isl 1 [(.str [32, 63, 32])])] r73.2).bind fun r74 =>
  onO (Locs.find s49.2.1 3) fun cs75 =>
  (M.ldc false 1 cs75 4).bind fun v76 =>
  (M.indexSl 6 v76 (.int .i64 1)).bind fun v77 =>
  (M.load true 6 v77 r74.2).bind fun v78 =>
  (Γ 54 [(s49.1.getD 0 undefA), v78, (.int .i64 0)] r74.2).bind fun r79 =>
  (Γ 31 [(s49.1.getD 0 undefA), (.isl 1 [(.str [32, 58, 32])])] r79.2).bind fun r80 =>
  onO (Locs.find s49.2.1 3) fun cs81 =>
  (M.ldc false 1 cs81 4).bind fun v82 =>
  (M.indexSl 6 v82 (.int .i64 2)).bind fun v83 =>
  (M.load true 6 v83 r80.2).bind fun v84 =>
  (Γ 54 [(s49.1.getD 0 undefA), v84, (.int .i64 1)] r80.2).bind fun r85 =>
  .ok (gc (.tup []) H r85.2))
  ((M.bin Tryz.prog .eql 3 (.tmp 11) (.const (.int .i64 13)) (s49.1.getD 1 undefA) (.int .i64 13)).bind fun v86 =>
  condEv v86
  (onO (Locs.find s49.2.1 3) fun cs87 =>
  (M.ldc false 1 cs87 4).bind fun v88 =>
  (M.indexSl 6 v88 (.int .i64 0)).bind fun v89 =>
  (M.load true 6 v89 s49.2.2).bind fun v90 =>
  (Γ 54 [(s49.1.getD 0 undefA), v90, (.int .i64 13)] s49.2.2).bind fun r91 =>
  onO (Locs.find s49.2.1 3) fun cs92 =>
  (M.ldc false 1 cs92 1).bind fun v93 =>
  (M.fill (fun i => some (i * 1, 1)) [(.str []), (.str []), (.str [])] [(0, (.str [32])), (1, v93), (2, (.str [32]))]).bind fun cs94 =>
  (Γ 31 [(s49.1.getD 0 undefA), (.isl 1 (chunks false 1 3 cs94))] r91.2).bind fun r95 =>
  onO (Locs.find s49.2.1 3) fun cs96 =>
  (M.ldc false 1 cs96 4).bind fun v97 =>
  (M.indexSl 6 v97 (.int .i64 1)).bind fun v98 =>
  (M.load true 6 v98 r95.2).bind fun v99 =>
  (Γ 54 [(s49.1.getD 0 undefA), v99, (.int .i64 0)] r95.2).bind fun r100 =>
  .ok (gc (.tup []) H r100.2))
  (.ok (gc (.tup []) H s49.2.2))))) fun j101 =>
  condEv (.bool ((p1_0 == 10)))
  (j101 ([p0, (.int .i64 p1_0), (.bool ((p1_0 == 10)))], [(3, [(.int .i64 p1_0), (.str p1_1), (.int .u32 p1_2), (.bool p1_3), p1_4, (.int .i64 p1_5)])], r1.2))
  (j101 ([p0, (.int .i64 p1_0), (.bool ((p1_0 == 11)))], [(3, [(.int .i64 p1_0), (.str p1_1), (.int .u32 p1_2), (.bool p1_3), p1_4, (.int .i64 p1_5)])], r1.2))))))
theorem u82 {glob : Nat → Option (List AV)} {prim : Nat → Option (List AV → Heap → Out (AV × Heap))} (hp : prim 82 = none) (Γ : CallsT) (lp : LoopT Ans) (p0 : AV) (p1_0 : Int) (p1_1 : (List UInt8)) (p1_2 : Int) (p1_3 : Bool) (p1_4 : AV) (p1_5 : Int) (H : Heap) : runF (X0 glob prim) lp Γ 82 [p0, (.agg [(.int .i64 p1_0), (.str p1_1), (.int .u32 p1_2), (.bool p1_3), p1_4, (.int .i64 p1_5)])] H = g82 Γ lp p0 p1_0 p1_1 p1_2 p1_3 p1_4 p1_5 H :=
  (runF_run hp (show trieF.get 82 = some Tryz.f82 by kernel_rfl) (by kernel_rfl) (by kernel_rfl)).trans (by kernel_rfl)
theorem c82 {glob : Nat → Option (List AV)} {prim : Nat → Option (List AV → Heap → Out (AV × Heap))} (hp : prim 82 = none) (p0 : AV) (p1_0 : Int) (p1_1 : (List UInt8)) (p1_2 : Int) (p1_3 : Bool) (p1_4 : AV) (p1_5 : Int) (H : Heap) {r : Ans} (h : g82 (callW (X0 glob prim)) loopW p0 p1_0 p1_1 p1_2 p1_3 p1_4 p1_5 H = .ok r) : callW (X0 glob prim) 82 [p0, (.agg [(.int .i64 p1_0), (.str p1_1), (.int .u32 p1_2), (.bool p1_3), p1_4, (.int .i64 p1_5)])] H = .ok r := callW_of ((u82 hp ..).trans h)
/- strings.HasPrefix -/
noncomputable def g84 (Γ : CallsT) (lp : LoopT Ans) (p0 : (List UInt8)) (p1 : (List UInt8)) (H : Heap) : Out Ans :=
  (Γ 107 [(.str p0), (.str p1)] H.start).bind fun r1 =>
  .ok (gc r1.1 H r1.2)
theorem u84 {glob : Nat → Option (List AV)} {prim : Nat → Option (List AV → Heap → Out (AV × Heap))} (hp : prim 84 = none) (Γ : CallsT) (lp : LoopT Ans) (p0 : (List UInt8)) (p1 : (List UInt8)) (H : Heap) : runF (X0 glob prim) lp Γ 84 [(.str p0), (.str p1)] H = g84 Γ lp p0 p1 H :=
  (runF_run hp (show trieF.get 84 = some Tryz.f84 by kernel_rfl) (by kernel_rfl) (by kernel_rfl)).trans (by kernel_rfl)
theorem c84 {glob : Nat → Option (List AV)} {prim : Nat → Option (List AV → Heap → Out (AV × Heap))} (hp : prim 84 = none) (p0 : (List UInt8)) (p1 : (List UInt8)) (H : Heap) {r : Ans} (h : g84 (callW (X0 glob prim)) loopW p0 p1 H = .ok r) : callW (X0 glob prim) 84 [(.str p0), (.str p1)] H = .ok r := callW_of ((u84 hp ..).trans h)
/- crucible/crucibleref07.letter -/
noncomputable def g89 (Γ : CallsT) (lp : LoopT Ans) (p0 : Int) (H : Heap) : Out Ans :=
  (guardEv (some (.val (.bool (decide (p0 ≥ 97))))) true
  (.ok ((.int .u8 p0), H.start))
  (.ok (undefA, H.start))).bind fun q1 =>
  (guardEv (some (.val (.bool (decide (p0 ≥ 97))))) true
  ((M.bin Tryz.prog .leq 5 (.tmp 6) (.const (.int .u8 122)) q1.1 (.int .u8 122)).bind fun v2 =>
  .ok (v2, q1.2))
  (.ok (undefA, q1.2))).bind fun q3 =>
  (M.pick (.bool (decide (p0 ≥ 97))) q3.1 (.bool false)).bind fun v4 =>
  (guardEv (some (.val v4)) false
  (.ok ((.int .u8 p0), q3.2))
  (.ok (undefA, q3.2))).bind fun q5 =>
  (guardEv (some (.val v4)) false
  ((M.bin Tryz.prog .geq 5 (.tmp 10) (.const (.int .u8 65)) q5.1 (.int .u8 65)).bind fun v6 =>
  .ok (v6, q5.2))
  (.ok (undefA, q5.2))).bind fun q7 =>
  (guardEv (some (.val v4)) false
  (.ok (q7.1, q7.2))
  (.ok (undefA, q7.2))).bind fun q8 =>
  (guardEv (some (.val q8.1)) true
  (.ok ((.int .u8 p0), q8.2))
  (.ok (undefA, q8.2))).bind fun q9 =>
  (guardEv (some (.val q8.1)) true
  ((M.bin Tryz.prog .leq 5 (.tmp 13) (.const (.int .u8 90)) q9.1 (.int .u8 90)).bind fun v10 =>
  .ok (v10, q9.2))
  (.ok (undefA, q9.2))).bind fun q11 =>
  (guardEv (some (.val v4)) false
  ((M.pick q8.1 q11.1 (.bool false)).bind fun v12 =>
  .ok (v12, q11.2))
  (.ok (undefA, q11.2))).bind fun q13 =>
  (M.pick v4 (.bool true) q13.1).bind fun v14 =>
  (guardEv (some (.val v14)) false
  (.ok ((.int .u8 p0), q13.2))
  (.ok (undefA, q13.2))).bind fun q15 =>
  (guardEv (some (.val v14)) false
  ((M.bin Tryz.prog .eql 5 (.tmp 18) (.const (.int .u8 95)) q15.1 (.int .u8 95)).bind fun v16 =>
  .ok (v16, q15.2))
  (.ok (undefA, q15.2))).bind fun q17 =>
  (M.pick v14 (.bool true) q17.1).bind fun v18 =>
  .ok (gc v18 H q17.2)
theorem u89 {glob : Nat → Option (List AV)} {prim : Nat → Option (List AV → Heap → Out (AV × Heap))} (hp : prim 89 = none) (Γ : CallsT) (lp : LoopT Ans) (p0 : Int) (H : Heap) : runF (X0 glob prim) lp Γ 89 [(.int .u8 p0)] H = g89 Γ lp p0 H :=
  (runF_run hp (show trieF.get 89 = some Tryz.f89 by kernel_rfl) (by kernel_rfl) (by kernel_rfl)).trans (by kernel_rfl)
theorem c89 {glob : Nat → Option (List AV)} {prim : Nat → Option (List AV → Heap → Out (AV × Heap))} (hp : prim 89 = none) (p0 : Int) (H : Heap) {r : Ans} (h : g89 (callW (X0 glob prim)) loopW p0 H = .ok r) : callW (X0 glob prim) 89 [(.int .u8 p0)] H = .ok r := callW_of ((u89 hp ..).trans h)
/- crucible/crucibleref07.digit -/
noncomputable def g90 (Γ : CallsT) (lp : LoopT Ans) (p0 : Int) (H : Heap) : Out Ans :=
  (guardEv (some (.val (.bool (decide (p0 ≥ 48))))) true
  (.ok ((.int .u8 p0), H.start))
  (.ok (undefA, H.start))).bind fun q1 =>
  (guardEv (some (.val (.bool (decide (p0 ≥ 48))))) true
  ((M.bin Tryz.prog .leq 5 (.tmp 6) (.const (.int .u8 57)) q1.1 (.int .u8 57)).bind fun v2 =>
  .ok (v2, q1.2))
  (.ok (undefA, q1.2))).bind fun q3 =>
  (M.pick (.bool (decide (p0 ≥ 48))) q3.1 (.bool false)).bind fun v4 =>
  .ok (gc v4 H q3.2)
theorem u90 {glob : Nat → Option (List AV)} {prim : Nat → Option (List AV → Heap → Out (AV × Heap))} (hp : prim 90 = none) (Γ : CallsT) (lp : LoopT Ans) (p0 : Int) (H : Heap) : runF (X0 glob prim) lp Γ 90 [(.int .u8 p0)] H = g90 Γ lp p0 H :=
  (runF_run hp (show trieF.get 90 = some Tryz.f90 by kernel_rfl) (by kernel_rfl) (by kernel_rfl)).trans (by kernel_rfl)
theorem c90 {glob : Nat → Option (List AV)} {prim : Nat → Option (List AV → Heap → Out (AV × Heap))} (hp : prim 90 = none) (p0 : Int) (H : Heap) {r : Ans} (h : g90 (callW (X0 glob prim)) loopW p0 H = .ok r) : callW (X0 glob prim) 90 [(.int .u8 p0)] H = .ok r := callW_of ((u90 hp ..).trans h)
/- crucible/crucibleref08.may -/
noncomputable def g91 (Γ : CallsT) (lp : LoopT Ans) (p0_0 : Int) (p0_1 : (List UInt8)) (p0_2 : Int) (p0_3 : Bool) (p0_4 : AV) (p0_5 : Int) (H : Heap) : Out Ans :=
  condEv (.bool ((p0_0 == 1)))
  ((Γ 23 [(.agg [(.int .i64 p0_0), (.str p0_1), (.int .u32 p0_2), (.bool p0_3), p0_4, (.int .i64 p0_5)]), (.bool false), (.bool true), (.bool true)] H.start).bind fun r1 =>
  (guardEv (some (.val r1.1)) true
  (.ok ((.bool p0_3), r1.2))
  (.ok (undefA, r1.2))).bind fun q2 =>
  (guardEv (some (.val r1.1)) true
  (.ok (q2.1, q2.2))
  (.ok (undefA, q2.2))).bind fun q3 =>
  (guardEv (some (.val q3.1)) false
  (.ok ((.int .u32 p0_2), q3.2))
  (.ok (undefA, q3.2))).bind fun q4 =>
  (guardEv (some (.val q3.1)) false
  ((M.bin Tryz.prog .lss 22 (.tmp 14) (.const (.int .u32 2147483648)) q4.1 (.int .u32 2147483648)).bind fun v5 =>
  .ok (v5, q4.2))
  (.ok (undefA, q4.2))).bind fun q6 =>
  (guardEv (some (.val r1.1)) true
  ((M.pick q3.1 (.bool true) q6.1).bind fun v7 =>
  .ok (v7, q6.2))
  (.ok (undefA, q6.2))).bind fun q8 =>
  (M.pick r1.1 q8.1 (.bool false)).bind fun v9 =>
  (guardEv (some (.val v9)) true
  (.ok ((.agg [(.int .i64 p0_0), (.str p0_1), (.int .u32 p0_2), (.bool p0_3), p0_4, (.int .i64 p0_5)]), q8.2))
  (.ok (undefA, q8.2))).bind fun q10 =>
  (guardEv (some (.val v9)) true
  ((Γ 61 [q10.1, (.int .i64 0)] q10.2).bind fun r11 =>
  .ok (r11.1, r11.2))
  (.ok (undefA, q10.2))).bind fun q12 =>
  (M.pick v9 q12.1 (.bool false)).bind fun v13 =>
  .ok (gc v13 H q12.2))
  (condEv (.bool ((p0_0 == 2)))
  ((Γ 23 [(.agg [(.int .i64 p0_0), (.str p0_1), (.int .u32 p0_2), (.bool p0_3), p0_4, (.int .i64 p0_5)]), (.bool false), (.bool true), (.bool false)] H.start).bind fun r14 =>
  (guardEv (some (.val r14.1)) true
  (.ok ((.int .u32 p0_2), r14.2))
  (.ok (undefA, r14.2))).bind fun q15 =>
  (guardEv (some (.val r14.1)) true
  ((M.bin Tryz.prog .lss 22 (.tmp 28) (.const (.int .u32 256)) q15.1 (.int .u32 256)).bind fun v16 =>
  .ok (v16, q15.2))
  (.ok (undefA, q15.2))).bind fun q17 =>
  (M.pick r14.1 q17.1 (.bool false)).bind fun v18 =>
  (guardEv (some (.val v18)) true
  (.ok ((.agg [(.int .i64 p0_0), (.str p0_1), (.int .u32 p0_2), (.bool p0_3), p0_4, (.int .i64 p0_5)]), q17.2))
  (.ok (undefA, q17.2))).bind fun q19 =>
  (guardEv (some (.val v18)) true
  ((Γ 61 [q19.1, (.int .i64 0)] q19.2).bind fun r20 =>
  .ok (r20.1, r20.2))
  (.ok (undefA, q19.2))).bind fun q21 =>
  (M.pick v18 q21.1 (.bool false)).bind fun v22 =>
  .ok (gc v22 H q21.2))
  (condEv (.bool ((p0_0 == 3)))
  ((Γ 23 [(.agg [(.int .i64 p0_0), (.str p0_1), (.int .u32 p0_2), (.bool p0_3), p0_4, (.int .i64 p0_5)]), (.bool true), (.bool false), (.bool false)] H.start).bind fun r23 =>
  (guardEv (some (.val r23.1)) true
  (.ok ((.agg [(.int .i64 p0_0), (.str p0_1), (.int .u32 p0_2), (.bool p0_3), p0_4, (.int .i64 p0_5)]), r23.2))
  (.ok (undefA, r23.2))).bind fun q24 =>
  (guardEv (some (.val r23.1)) true
  ((Γ 61 [q24.1, (.int .i64 0)] q24.2).bind fun r25 =>
  .ok (r25.1, r25.2))
  (.ok (undefA, q24.2))).bind fun q26 =>
  (M.pick r23.1 q26.1 (.bool false)).bind fun v27 =>
  .ok (gc v27 H q26.2))
  (condEv (.bool ((p0_0 == 4)))
  ((Γ 23 [(.agg [(.int .i64 p0_0), (.str p0_1), (.int .u32 p0_2), (.bool p0_3), p0_4, (.int .i64 p0_5)]), (.bool true), (.bool false), (.bool false)] H.start).bind fun r28 =>
  (guardEv (some (.val r28.1)) true
  (.ok ((.str p0_1), r28.2))
  (.ok (undefA, r28.2))).bind fun q29 =>
  (guardEv (some (.val r28.1)) true
  ((Γ 37 [q29.1] q29.2).bind fun r30 =>
  .ok (r30.1, r30.2))
  (.ok (undefA, q29.2))).bind fun q31 =>
  (M.pick r28.1 q31.1 (.bool false)).bind fun v32 =>
  (guardEv (some (.val v32)) true
  (.ok ((.agg [(.int .i64 p0_0), (.str p0_1), (.int .u32 p0_2), (.bool p0_3), p0_4, (.int .i64 p0_5)]), q31.2))
  (.ok (undefA, q31.2))).bind fun q33 =>
  (guardEv (some (.val v32)) true
  ((Γ 61 [q33.1, (.int .i64 0)] q33.2).bind fun r34 =>
  .ok (r34.1, r34.2))
  (.ok (undefA, q33.2))).bind fun q35 =>
  (M.pick v32 q35.1 (.bool false)).bind fun v36 =>
  .ok (gc v36 H q35.2))
  (condEv (.bool ((p0_0 == 5)))
  ((Γ 23 [(.agg [(.int .i64 p0_0), (.str p0_1), (.int .u32 p0_2), (.bool p0_3), p0_4, (.int .i64 p0_5)]), (.bool false), (.bool false), (.bool false)] H.start).bind fun r37 =>
  (guardEv (some (.val r37.1)) true
  (.ok ((.agg [(.int .i64 p0_0), (.str p0_1), (.int .u32 p0_2), (.bool p0_3), p0_4, (.int .i64 p0_5)]), r37.2))
  (.ok (undefA, r37.2))).bind fun q38 =>
  (guardEv (some (.val r37.1)) true
  ((Γ 61 [q38.1, (.int .i64 2)] q38.2).bind fun r39 =>
  .ok (r39.1, r39.2))
  (.ok (undefA, q38.2))).bind fun q40 =>
  (M.pick r37.1 q40.1 (.bool false)).bind fun v41 =>
  .ok (gc v41 H q40.2))
  (jn (fun s42 =>
  condEv (s42.1.getD 1 undefA)
  (onO (Locs.find s42.2.1 1) fun cs43 =>
  (M.ldc true 6 cs43 0).bind fun v44 =>
  (Γ 23 [v44, (.bool true), (.bool false), (.bool false)] s42.2.2).bind fun r45 =>
  (guardEv (some (.val r45.1)) true
  (onO (Locs.find s42.2.1 1) fun cs46 =>
  (M.ldc false 1 cs46 1).bind fun v47 =>
  .ok (v47, r45.2))
  (.ok (undefA, r45.2))).bind fun q48 =>
  (guardEv (some (.val r45.1)) true
  ((Γ 37 [q48.1] q48.2).bind fun r49 =>
  .ok (r49.1, r49.2))
  (.ok (undefA, q48.2))).bind fun q50 =>
  (M.pick r45.1 q50.1 (.bool false)).bind fun v51 =>
  (guardEv (some (.val v51)) true
  (onO (Locs.find s42.2.1 1) fun cs52 =>
  (M.ldc true 6 cs52 0).bind fun v53 =>
  .ok (v53, q50.2))
  (.ok (undefA, q50.2))).bind fun q54 =>
  (guardEv (some (.val v51)) true
  ((Γ 61 [q54.1, (.int .i64 1)] q54.2).bind fun r55 =>
  .ok (r55.1, r55.2))
  (.ok (undefA, q54.2))).bind fun q56 =>
  (M.pick v51 q56.1 (.bool false)).bind fun v57 =>
  .ok (gc v57 H q56.2))
  ((M.bin Tryz.prog .eql 3 (.tmp 4) (.const (.int .i64 8)) (s42.1.getD 0 undefA) (.int .i64 8)).bind fun v58 =>
  condEv v58
  (onO (Locs.find s42.2.1 1) fun cs59 =>
  (M.ldc true 6 cs59 0).bind fun v60 =>
  (Γ 23 [v60, (.bool true), (.bool false), (.bool false)] s42.2.2).bind fun r61 =>
  (guardEv (some (.val r61.1)) true
  (onO (Locs.find s42.2.1 1) fun cs62 =>
  (M.ldc false 1 cs62 1).bind fun v63 =>
  .ok (v63, r61.2))
  (.ok (undefA, r61.2))).bind fun q64 =>
  (guardEv (some (.val r61.1)) true
  ((Γ 37 [q64.1] q64.2).bind fun r65 =>
  .ok (r65.1, r65.2))
  (.ok (undefA, q64.2))).bind fun q66 =>
  (guardEv (some (.val r61.1)) true
  (.ok (q66.1, q66.2))
  (.ok (undefA, q66.2))).bind fun q67 =>
  (guardEv (some (.val q67.1)) false
  (onO (Locs.find s42.2.1 1) fun cs68 =>
  (M.ldc false 1 cs68 1).bind fun v69 =>
  .ok (v69, q67.2))
  (.ok (undefA, q67.2))).bind fun q70 =>
  (guardEv (some (.val q67.1)) false
  ((M.bin Tryz.prog .eql 9 (.tmp 88) (.const (.string ⟨⟨[103, 101, 116, 98, 121, 116, 101]⟩⟩)) q70.1 (.str [103, 101, 116, 98, 121, 116, 101])).bind fun v71 =>
  .ok (v71, q70.2))
  (.ok (undefA, q70.2))).bind fun q72 =>
  (guardEv (some (.val r61.1)) true
  ((M.pick q67.1 (.bool true) q72.1).bind fun v73 =>
  .ok (v73, q72.2))
  (.ok (undefA, q72.2))).bind fun q74 =>
  (guardEv (some (.val r61.1)) true
  (.ok (q74.1, q74.2))
  (.ok (undefA, q74.2))).bind fun q75 =>
  (guardEv (some (.val q75.1)) false
  (onO (Locs.find s42.2.1 1) fun cs76 =>
  (M.ldc false 1 cs76 1).bind fun v77 =>
  .ok (v77, q75.2))
  (.ok (undefA, q75.2))).bind fun q78 =>
  (guardEv (some (.val q75.1)) false
  ((M.bin Tryz.prog .eql 9 (.tmp 93) (.const (.string ⟨⟨[112, 117, 116, 98, 121, 116, 101]⟩⟩)) q78.1 (.str [112, 117, 116, 98, 121, 116, 101])).bind fun v79 =>
  .ok (v79, q78.2))
  (.ok (undefA, q78.2))).bind fun q80 =>
  (guardEv (some (.val r61.1)) true
  ((M.pick q75.1 (.bool true) q80.1).bind fun v81 =>
  .ok (v81, q80.2))
  (.ok (undefA, q80.2))).bind fun q82 =>
  (M.pick r61.1 q82.1 (.bool false)).bind fun v83 =>
  (guardEv (some (.val v83)) true
  (onO (Locs.find s42.2.1 1) fun cs84 =>
  (M.ldc true 6 cs84 0).bind fun v85 =>
  .ok (v85, q82.2))
  (.ok (undefA, q82.2))).bind fun q86 =>
  (guardEv (some (.val v83)) true
  ((Γ 61 [q86.1, (.int .i64 (-1))] q86.2).bind fun r87 =>
  .ok (r87.1, r87.2))
  (.ok (undefA, q86.2))).bind fun q88 =>
  (M.pick v83 q88.1 (.bool false)).bind fun v89 =>
  .ok (gc v89 H q88.2))
  ((M.bin Tryz.prog .eql 3 (.tmp 4) (.const (.int .i64 9)) (s42.1.getD 0 undefA) (.int .i64 9)).bind fun v90 =>
  condEv v90
  (onO (Locs.find s42.2.1 1) fun cs91 =>
  (M.ldc true 6 cs91 0).bind fun v92 =>
  (Γ 23 [v92, (.bool true), (.bool false), (.bool false)] s42.2.2).bind fun r93 =>
  (guardEv (some (.val r93.1)) true
  (onO (Locs.find s42.2.1 1) fun cs94 =>
  (M.ldc false 1 cs94 1).bind fun v95 =>
  .ok (v95, r93.2))
  (.ok (undefA, r93.2))).bind fun q96 =>
  (guardEv (some (.val r93.1)) true
  ((Γ 110 [(.str [32, 45, 32, 126, 32, 33, 32, 38, 32]), q96.1] q96.2).bind fun r97 =>
  .ok (r97.1, r97.2))
  (.ok (undefA, q96.2))).bind fun q98 =>
  (M.pick r93.1 q98.1 (.bool false)).bind fun v99 =>
  (guardEv (some (.val v99)) true
  (onO (Locs.find s42.2.1 1) fun cs100 =>
  (M.ldc true 6 cs100 0).bind fun v101 =>
  .ok (v101, q98.2))
  (.ok (undefA, q98.2))).bind fun q102 =>
  (guardEv (some (.val v99)) true
  ((Γ 61 [q102.1, (.int .i64 1)] q102.2).bind fun r103 =>
  .ok (r103.1, r103.2))
  (.ok (undefA, q102.2))).bind fun q104 =>
  (M.pick v99 q104.1 (.bool false)).bind fun v105 =>
  .ok (gc v105 H q104.2))
  ((M.bin Tryz.prog .eql 3 (.tmp 4) (.const (.int .i64 10)) (s42.1.getD 0 undefA) (.int .i64 10)).bind fun v106 =>
  condEv v106
  (onO (Locs.find s42.2.1 1) fun cs107 =>
  (M.ldc true 6 cs107 0).bind fun v108 =>
  (Γ 23 [v108, (.bool true), (.bool false), (.bool false)] s42.2.2).bind fun r109 =>
  (guardEv (some (.val r109.1)) true
  (onO (Locs.find s42.2.1 1) fun cs110 =>
  (M.ldc false 1 cs110 1).bind fun v111 =>
  .ok (v111, r109.2))
  (.ok (undefA, r109.2))).bind fun q112 =>
  (guardEv (some (.val r109.1)) true
  ((Γ 110 [(.str [32, 42, 32, 47, 32, 37, 32, 43, 32, 45, 32, 60, 60, 32, 62, 62, 32, 60, 32, 62, 32, 60, 61, 32, 62, 61, 32, 61, 61, 32, 33, 61, 32, 38, 32, 94, 32, 124, 32]), q112.1] q112.2).bind fun r113 =>
  .ok (r113.1, r113.2))
  (.ok (undefA, q112.2))).bind fun q114 =>
  (M.pick r109.1 q114.1 (.bool false)).bind fun v115 =>
  (guardEv (some (.val v115)) true
  (onO (Locs.find s42.2.1 1) fun cs116 =>
  (M.ldc true 6 cs116 0).bind fun v117 =>
  .ok (v117, q114.2))
  (.ok (undefA, q114.2))).bind fun q118 =>
  (guardEv (some (.val v115)) true
  ((Γ 61 [q118.1, (.int .i64 2)] q118.2).bind fun r119 =>
  .ok (r119.1, r119.2))
  (.ok (undefA, q118.2))).bind fun q120 =>
  (M.pick v115 q120.1 (.bool false)).bind fun v121 =>
  .ok (gc v121 H q120.2))
  ((M.bin Tryz.prog .eql 3 (.tmp 4) (.const (.int .i64 11)) (s42.1.getD 0 undefA) (.int .i64 11)).bind fun v122 =>
  condEv v122
  (onO (Locs.find s42.2.1 1) fun cs123 =>
  (M.ldc true 6 cs123 0).bind fun v124 =>
  (Γ 23 [v124, (.bool true), (.bool false), (.bool false)] s42.2.2).bind fun r125 =>
  (guardEv (some (.val r125.1)) true
  (onO (Locs.find s42.2.1 1) fun cs126 =>
  (M.ldc false 1 cs126 1).bind fun v127 =>
  .ok (v127, r125.2))
  (.ok (undefA, r125.2))).bind fun q128 =>
  (guardEv (some (.val r125.1)) true
  ((Γ 110 [(.str [32, 38, 38, 32, 124, 124, 32]), q128.1] q128.2).bind fun r129 =>
  .ok (r129.1, r129.2))
  (.ok (undefA, q128.2))).bind fun q130 =>
  (M.pick r125.1 q130.1 (.bool false)).bind fun v131 =>
  (guardEv (some (.val v131)) true
  (onO (Locs.find s42.2.1 1) fun cs132 =>
  (M.ldc true 6 cs132 0).bind fun v133 =>
  .ok (v133, q130.2))
  (.ok (undefA, q130.2))).bind fun q134 =>
  (guardEv (some (.val v131)) true
  ((Γ 61 [q134.1, (.int .i64 2)] q134.2).bind fun r135 =>
  .ok (r135.1, r135.2))
  (.ok (undefA, q134.2))).bind fun q136 =>
  (M.pick v131 q136.1 (.bool false)).bind fun v137 =>
  .ok (gc v137 H q136.2))
  ((M.bin Tryz.prog .eql 3 (.tmp 4) (.const (.int .i64 12)) (s42.1.getD 0 undefA) (.int .i64 12)).bind fun v138 =>
  condEv v138
  (onO (Locs.find s42.2.1 1) fun cs139 =>
  (M.ldc true 6 cs139 0).bind fun v140 =>
  (Γ 23 [v140, (.bool false), (.bool false), (.bool false)] s42.2.2).bind fun r141 =>
  (guardEv (some (.val r141.1)) true
  (onO (Locs.find s42.2.1 1) fun cs142 =>
  (M.ldc true 6 cs142 0).bind fun v143 =>
  .ok (v143, r141.2))
  (.ok (undefA, r141.2))).bind fun q144 =>
  (guardEv (some (.val r141.1)) true
  ((Γ 61 [q144.1, (.int .i64 3)] q144.2).bind fun r145 =>
  .ok (r145.1, r145.2))
  (.ok (undefA, q144.2))).bind fun q146 =>
  (M.pick r141.1 q146.1 (.bool false)).bind fun v147 =>
  .ok (gc v147 H q146.2))
  ((M.bin Tryz.prog .eql 3 (.tmp 4) (.const (.int .i64 13)) (s42.1.getD 0 undefA) (.int .i64 13)).bind fun v148 =>
  condEv v148
  (onO (Locs.find s42.2.1 1) fun cs149 =>
  (M.ldc true 6 cs149 0).bind fun v150 =>
  (Γ 23 [v150, (.bool true), (.bool false), (.bool false)] s42.2.2).bind fun r151 =>
  (guardEv (some (.val r151.1)) true
  (onO (Locs.find s42.2.1 1) fun cs152 =>
  (M.ldc false 1 cs152 1).bind fun v153 =>
  .ok (v153, r151.2))
  (.ok (undefA, r151.2))).bind fun q154 =>
  (guardEv (some (.val r151.1)) true
  ((Γ 110 [(.str [32, 61, 32, 43, 61, 32, 45, 61, 32, 42, 61, 32, 47, 61, 32, 37, 61, 32, 38, 61, 32, 124, 61, 32, 94, 61, 32, 60, 60, 61, 32, 62, 62, 61, 32]), q154.1] q154.2).bind fun r155 =>
  .ok (r155.1, r155.2))
  (.ok (undefA, q154.2))).bind fun q156 =>
  (M.pick r151.1 q156.1 (.bool false)).bind fun v157 =>
  (guardEv (some (.val v157)) true
  (onO (Locs.find s42.2.1 1) fun cs158 =>
  (M.ldc true 6 cs158 0).bind fun v159 =>
  .ok (v159, q156.2))
  (.ok (undefA, q156.2))).bind fun q160 =>
  (guardEv (some (.val v157)) true
  ((Γ 61 [q160.1, (.int .i64 2)] q160.2).bind fun r161 =>
  .ok (r161.1, r161.2))
  (.ok (undefA, q160.2))).bind fun q162 =>
  (M.pick v157 q162.1 (.bool false)).bind fun v163 =>
  (guardEv (some (.val v163)) true
  (onO (Locs.find s42.2.1 1) fun cs164 =>
  (M.ldc false 1 cs164 4).bind fun v165 =>
  .ok (v165, q162.2))
  (.ok (undefA, q162.2))).bind fun q166 =>
  (guardEv (some (.val v163)) true
  ((M.indexSl 6 q166.1 (.int .i64 0)).bind fun v167 =>
  .ok (v167, q166.2))
  (.ok (undefA, q166.2))).bind fun q168 =>
  (guardEv (some (.val v163)) true
  ((M.load true 6 q168.1 q168.2).bind fun v169 =>
  .ok (v169, q168.2))
  (.ok (undefA, q168.2))).bind fun q170 =>
  (guardEv (some (.val v163)) true
  ((Γ 111 [q170.1] q170.2).bind fun r171 =>
  .ok (r171.1, r171.2))
  (.ok (undefA, q170.2))).bind fun q172 =>
  (M.pick v163 q172.1 (.bool false)).bind fun v173 =>
  .ok (gc v173 H q172.2))
  ((M.bin Tryz.prog .eql 3 (.tmp 4) (.const (.int .i64 14)) (s42.1.getD 0 undefA) (.int .i64 14)).bind fun v174 =>
  condEv v174
  (onO (Locs.find s42.2.1 1) fun cs175 =>
  (M.ldc true 6 cs175 0).bind fun v176 =>
  (Γ 23 [v176, (.bool false), (.bool false), (.bool false)] s42.2.2).bind fun r177 =>
  (guardEv (some (.val r177.1)) true
  (onO (Locs.find s42.2.1 1) fun cs178 =>
  (M.ldc false 1 cs178 4).bind fun v179 =>
  .ok (v179, r177.2))
  (.ok (undefA, r177.2))).bind fun q180 =>
  (guardEv (some (.val r177.1)) true
  ((M.len false q180.1).bind fun v181 =>
  .ok (v181, q180.2))
  (.ok (undefA, q180.2))).bind fun q182 =>
  (guardEv (some (.val r177.1)) true
  ((M.bin Tryz.prog .eql 3 (.tmp 175) (.const (.int .i64 2)) q182.1 (.int .i64 2)).bind fun v183 =>
  .ok (v183, q182.2))
  (.ok (undefA, q182.2))).bind fun q184 =>
  (M.pick r177.1 q184.1 (.bool false)).bind fun v185 =>
  (guardEv (some (.val v185)) true
  (onO (Locs.find s42.2.1 1) fun cs186 =>
  (M.ldc false 1 cs186 4).bind fun v187 =>
  .ok (v187, q184.2))
  (.ok (undefA, q184.2))).bind fun q188 =>
  (guardEv (some (.val v185)) true
  ((M.indexSl 6 q188.1 (.int .i64 0)).bind fun v189 =>
  .ok (v189, q188.2))
  (.ok (undefA, q188.2))).bind fun q190 =>
  (guardEv (some (.val v185)) true
  ((M.load true 6 q190.1 q190.2).bind fun v191 =>
  .ok (v191, q190.2))
  (.ok (undefA, q190.2))).bind fun q192 =>
  (guardEv (some (.val v185)) true
  ((Γ 38 [q192.1] q192.2).bind fun r193 =>
  .ok (r193.1, r193.2))
  (.ok (undefA, q192.2))).bind fun q194 =>
  (M.pick v185 q194.1 (.bool false)).bind fun v195 =>
  (guardEv (some (.val v195)) true
  (onO (Locs.find s42.2.1 1) fun cs196 =>
  (M.ldc false 1 cs196 4).bind fun v197 =>
  .ok (v197, q194.2))
  (.ok (undefA, q194.2))).bind fun q198 =>
  (guardEv (some (.val v195)) true
  ((M.indexSl 6 q198.1 (.int .i64 1)).bind fun v199 =>
  .ok (v199, q198.2))
  (.ok (undefA, q198.2))).bind fun q200 =>
  (guardEv (some (.val v195)) true
  ((M.load true 6 q200.1 q200.2).bind fun v201 =>
  .ok (v201, q200.2))
  (.ok (undefA, q200.2))).bind fun q202 =>
  (guardEv (some (.val v195)) true
  ((Γ 60 [q202.1] q202.2).bind fun r203 =>
  .ok (r203.1, r203.2))
  (.ok (undefA, q202.2))).bind fun q204 =>
  (M.pick v195 q204.1 (.bool false)).bind fun v205 =>
  .ok (gc v205 H q204.2))
  ((M.bin Tryz.prog .eql 3 (.tmp 4) (.const (.int .i64 15)) (s42.1.getD 0 undefA) (.int .i64 15)).bind fun v206 =>
  condEv v206
  (onO (Locs.find s42.2.1 1) fun cs207 =>
  (M.ldc true 6 cs207 0).bind fun v208 =>
  (Γ 23 [v208, (.bool false), (.bool false), (.bool false)] s42.2.2).bind fun r209 =>
  (guardEv (some (.val r209.1)) true
  (onO (Locs.find s42.2.1 1) fun cs210 =>
  (M.ldc false 1 cs210 4).bind fun v211 =>
  .ok (v211, r209.2))
  (.ok (undefA, r209.2))).bind fun q212 =>
  (guardEv (some (.val r209.1)) true
  ((M.len false q212.1).bind fun v213 =>
  .ok (v213, q212.2))
  (.ok (undefA, q212.2))).bind fun q214 =>
  (guardEv (some (.val r209.1)) true
  ((M.bin Tryz.prog .eql 3 (.tmp 199) (.const (.int .i64 1)) q214.1 (.int .i64 1)).bind fun v215 =>
  .ok (v215, q214.2))
  (.ok (undefA, q214.2))).bind fun q216 =>
  (M.pick r209.1 q216.1 (.bool false)).bind fun v217 =>
  (guardEv (some (.val v217)) true
  (onO (Locs.find s42.2.1 1) fun cs218 =>
  (M.ldc false 1 cs218 4).bind fun v219 =>
  .ok (v219, q216.2))
  (.ok (undefA, q216.2))).bind fun q220 =>
  (guardEv (some (.val v217)) true
  ((M.indexSl 6 q220.1 (.int .i64 0)).bind fun v221 =>
  .ok (v221, q220.2))
  (.ok (undefA, q220.2))).bind fun q222 =>
  (guardEv (some (.val v217)) true
  ((M.load true 6 q222.1 q222.2).bind fun v223 =>
  .ok (v223, q222.2))
  (.ok (undefA, q222.2))).bind fun q224 =>
  (guardEv (some (.val v217)) true
  ((Γ 38 [q224.1] q224.2).bind fun r225 =>
  .ok (r225.1, r225.2))
  (.ok (undefA, q224.2))).bind fun q226 =>
  (guardEv (some (.val v217)) true
  (.ok (q226.1, q226.2))
  (.ok (undefA, q226.2))).bind fun q227 =>
  (guardEv (some (.val q227.1)) false
  (onO (Locs.find s42.2.1 1) fun cs228 =>
  (M.ldc false 1 cs228 4).bind fun v229 =>
  .ok (v229, q227.2))
  (.ok (undefA, q227.2))).bind fun q230 =>
  (guardEv (some (.val q227.1)) false
  ((M.indexSl 6 q230.1 (.int .i64 0)).bind fun v231 =>
  .ok (v231, q230.2))
  (.ok (undefA, q230.2))).bind fun q232 =>
  (guardEv (some (.val q227.1)) false
  ((M.load true 6 q232.1 q232.2).bind fun v233 =>
  .ok (v233, q232.2))
  (.ok (undefA, q232.2))).bind fun q234 =>
  (guardEv (some (.val q227.1)) false
  ((Γ 60 [q234.1] q234.2).bind fun r235 =>
  .ok (r235.1, r235.2))
  (.ok (undefA, q234.2))).bind fun q236 =>
  (guardEv (some (.val v217)) true
  ((M.pick q227.1 (.bool true) q236.1).bind fun v237 =>
  .ok (v237, q236.2))
  (.ok (undefA, q236.2))).bind fun q238 =>
  (M.pick v217 q238.1 (.bool false)).bind fun v239 =>
  .ok (gc v239 H q238.2))
  (.ok (gc (.bool false) H s42.2.2))))))))))) fun j240 =>
  condEv (.bool ((p0_0 == 6)))
  (j240 ([(.int .i64 p0_0), (.bool ((p0_0 == 6)))], [(1, [(.int .i64 p0_0), (.str p0_1), (.int .u32 p0_2), (.bool p0_3), p0_4, (.int .i64 p0_5)])], H.start))
  (j240 ([(.int .i64 p0_0), (.bool ((p0_0 == 7)))], [(1, [(.int .i64 p0_0), (.str p0_1), (.int .u32 p0_2), (.bool p0_3), p0_4, (.int .i64 p0_5)])], H.start)))))))
theorem u91 {glob : Nat → Option (List AV)} {prim : Nat → Option (List AV → Heap → Out (AV × Heap))} (hp : prim 91 = none) (Γ : CallsT) (lp : LoopT Ans) (p0_0 : Int) (p0_1 : (List UInt8)) (p0_2 : Int) (p0_3 : Bool) (p0_4 : AV) (p0_5 : Int) (H : Heap) : runF (X0 glob prim) lp Γ 91 [(.agg [(.int .i64 p0_0), (.str p0_1), (.int .u32 p0_2), (.bool p0_3), p0_4, (.int .i64 p0_5)])] H = g91 Γ lp p0_0 p0_1 p0_2 p0_3 p0_4 p0_5 H :=
  (runF_run hp (show trieF.get 91 = some Tryz.f91 by kernel_rfl) (by kernel_rfl) (by kernel_rfl)).trans (by kernel_rfl)
theorem c91 {glob : Nat → Option (List AV)} {prim : Nat → Option (List AV → Heap → Out (AV × Heap))} (hp : prim 91 = none) (p0_0 : Int) (p0_1 : (List UInt8)) (p0_2 : Int) (p0_3 : Bool) (p0_4 : AV) (p0_5 : Int) (H : Heap) {r : Ans} (h : g91 (callW (X0 glob prim)) loopW p0_0 p0_1 p0_2 p0_3 p0_4 p0_5 H = .ok r) : callW (X0 glob prim) 91 [(.agg [(.int .i64 p0_0), (.str p0_1), (.int .u32 p0_2), (.bool p0_3), p0_4, (.int .i64 p0_5)])] H = .ok r := callW_of ((u91 hp ..).trans h)
/- crucible/crucibleref08.open -/
noncomputable def g92 (Γ : CallsT) (lp : LoopT Ans) (p0_0 : Int) (p0_1 : (List UInt8)) (p0_2 : Int) (p0_3 : Bool) (p0_4 : AV) (p0_5 : Int) (H : Heap) : Out Ans :=
  condEv (.bool ((p0_0 == 49)))
  ((M.len false p0_4).bind fun v1 =>
  (M.bin Tryz.prog .eql 3 (.tmp 9) (.const (.int .i64 2)) v1 (.int .i64 2)).bind fun v2 =>
  (guardEv (some (.val v2)) false
  (.ok (p0_4, H.start))
  (.ok (undefA, H.start))).bind fun q3 =>
  (guardEv (some (.val v2)) false
  ((M.len false q3.1).bind fun v4 =>
  .ok (v4, q3.2))
  (.ok (undefA, q3.2))).bind fun q5 =>
  (guardEv (some (.val v2)) false
  ((M.bin Tryz.prog .eql 3 (.tmp 14) (.const (.int .i64 3)) q5.1 (.int .i64 3)).bind fun v6 =>
  .ok (v6, q5.2))
  (.ok (undefA, q5.2))).bind fun q7 =>
  (guardEv (some (.val v2)) false
  (.ok (q7.1, q7.2))
  (.ok (undefA, q7.2))).bind fun q8 =>
  (guardEv (some (.val q8.1)) true
  (.ok (p0_4, q8.2))
  (.ok (undefA, q8.2))).bind fun q9 =>
  (guardEv (some (.val q8.1)) true
  ((M.indexSl 6 q9.1 (.int .i64 2)).bind fun v10 =>
  .ok (v10, q9.2))
  (.ok (undefA, q9.2))).bind fun q11 =>
  (guardEv (some (.val q8.1)) true
  ((M.load true 6 q11.1 q11.2).bind fun v12 =>
  .ok (v12, q11.2))
  (.ok (undefA, q11.2))).bind fun q13 =>
  (guardEv (some (.val q8.1)) true
  ((Γ 92 [q13.1] q13.2).bind fun r14 =>
  .ok (r14.1, r14.2))
  (.ok (undefA, q13.2))).bind fun q15 =>
  (guardEv (some (.val v2)) false
  ((M.pick q8.1 q15.1 (.bool false)).bind fun v16 =>
  .ok (v16, q15.2))
  (.ok (undefA, q15.2))).bind fun q17 =>
  (M.pick v2 (.bool true) q17.1).bind fun v18 =>
  .ok (gc v18 H q17.2))
  (jn (fun s19 =>
  condEv (s19.1.getD 0 undefA)
  (onO (Locs.find s19.2.1 1) fun cs20 =>
  (M.ldc false 1 cs20 4).bind fun v21 =>
  (M.len false v21).bind fun v22 =>
  (M.bin Tryz.prog .gtr 3 (.tmp 29) (.const (.int .i64 0)) v22 (.int .i64 0)).bind fun v23 =>
  (guardEv (some (.val v23)) true
  (onO (Locs.find s19.2.1 1) fun cs24 =>
  (M.ldc false 1 cs24 4).bind fun v25 =>
  .ok (v25, s19.2.2))
  (.ok (undefA, s19.2.2))).bind fun q26 =>
  (guardEv (some (.val v23)) true
  (onO (Locs.find s19.2.1 1) fun cs27 =>
  (M.ldc false 1 cs27 4).bind fun v28 =>
  .ok (v28, q26.2))
  (.ok (undefA, q26.2))).bind fun q29 =>
  (guardEv (some (.val v23)) true
  ((M.len false q29.1).bind fun v30 =>
  .ok (v30, q29.2))
  (.ok (undefA, q29.2))).bind fun q31 =>
  (guardEv (some (.val v23)) true
  ((M.bin Tryz.prog .sub 3 (.tmp 36) (.const (.int .i64 1)) q31.1 (.int .i64 1)).bind fun v32 =>
  .ok (v32, q31.2))
  (.ok (undefA, q31.2))).bind fun q33 =>
  (guardEv (some (.val v23)) true
  ((M.indexSl 6 q26.1 q33.1).bind fun v34 =>
  .ok (v34, q33.2))
  (.ok (undefA, q33.2))).bind fun q35 =>
  (guardEv (some (.val v23)) true
  ((M.load true 6 q35.1 q35.2).bind fun v36 =>
  .ok (v36, q35.2))
  (.ok (undefA, q35.2))).bind fun q37 =>
  (guardEv (some (.val v23)) true
  ((Γ 92 [q37.1] q37.2).bind fun r38 =>
  .ok (r38.1, r38.2))
  (.ok (undefA, q37.2))).bind fun q39 =>
  (M.pick v23 q39.1 (.bool false)).bind fun v40 =>
  .ok (gc v40 H q39.2))
  (.ok (gc (.bool false) H s19.2.2))) fun j41 =>
  condEv (.bool ((p0_0 == 50)))
  (j41 ([(.bool ((p0_0 == 50)))], [(1, [(.int .i64 p0_0), (.str p0_1), (.int .u32 p0_2), (.bool p0_3), p0_4, (.int .i64 p0_5)])], H.start))
  (j41 ([(.bool ((p0_0 == 52)))], [(1, [(.int .i64 p0_0), (.str p0_1), (.int .u32 p0_2), (.bool p0_3), p0_4, (.int .i64 p0_5)])], H.start)))
theorem u92 {glob : Nat → Option (List AV)} {prim : Nat → Option (List AV → Heap → Out (AV × Heap))} (hp : prim 92 = none) (Γ : CallsT) (lp : LoopT Ans) (p0_0 : Int) (p0_1 : (List UInt8)) (p0_2 : Int) (p0_3 : Bool) (p0_4 : AV) (p0_5 : Int) (H : Heap) : runF (X0 glob prim) lp Γ 92 [(.agg [(.int .i64 p0_0), (.str p0_1), (.int .u32 p0_2), (.bool p0_3), p0_4, (.int .i64 p0_5)])] H = g92 Γ lp p0_0 p0_1 p0_2 p0_3 p0_4 p0_5 H :=
  (runF_run hp (show trieF.get 92 = some Tryz.f92 by kernel_rfl) (by kernel_rfl) (by kernel_rfl)).trans (by kernel_rfl)
theorem c92 {glob : Nat → Option (List AV)} {prim : Nat → Option (List AV → Heap → Out (AV × Heap))} (hp : prim 92 = none) (p0_0 : Int) (p0_1 : (List UInt8)) (p0_2 : Int) (p0_3 : Bool) (p0_4 : AV) (p0_5 : Int) (H : Heap) {r : Ans} (h : g92 (callW (X0 glob prim)) loopW p0_0 p0_1 p0_2 p0_3 p0_4 p0_5 H = .ok r) : callW (X0 glob prim) 92 [(.agg [(.int .i64 p0_0), (.str p0_1), (.int .u32 p0_2), (.bool p0_3), p0_4, (.int .i64 p0_5)])] H = .ok r := callW_of ((u92 hp ..).trans h)
/- crucible/crucibleref08.operator -/
noncomputable def g93 (Γ : CallsT) (lp : LoopT Ans) (p0 : (List UInt8)) (H : Heap) : Out Ans :=
  condEv (.bool (p0 == [124, 124]))
  (.ok (gc (.int .i64 2) H H.start))
  (condEv (.bool (p0 == [38, 38]))
  (.ok (gc (.int .i64 3) H H.start))
  (condEv (.bool (p0 == [124]))
  (.ok (gc (.int .i64 4) H H.start))
  (condEv (.bool (p0 == [94]))
  (.ok (gc (.int .i64 5) H H.start))
  (condEv (.bool (p0 == [38]))
  (.ok (gc (.int .i64 6) H H.start))
  (jn (fun s1 =>
  condEv (s1.1.getD 1 undefA)
  (.ok (gc (.int .i64 7) H s1.2.2))
  (jn (fun s2 =>
  condEv (s2.1.getD 1 undefA)
  (.ok (gc (.int .i64 8) H s2.2.2))
  (jn (fun s3 =>
  condEv (s3.1.getD 1 undefA)
  (.ok (gc (.int .i64 9) H s3.2.2))
  (jn (fun s4 =>
  condEv (s4.1.getD 0 undefA)
  (.ok (gc (.int .i64 10) H s4.2.2))
  (.ok (gc (.int .i64 11) H s4.2.2))) fun j5 =>
  (M.bin Tryz.prog .eql 9 (.tmp 3) (.const (.string ⟨⟨[43]⟩⟩)) (s3.1.getD 0 undefA) (.str [43])).bind fun v6 =>
  condEv v6
  (j5 ([v6], s3.2.1, s3.2.2))
  ((M.bin Tryz.prog .eql 9 (.tmp 3) (.const (.string ⟨⟨[45]⟩⟩)) (s3.1.getD 0 undefA) (.str [45])).bind fun v7 =>
  j5 ([v7], s3.2.1, s3.2.2)))) fun j8 =>
  (M.bin Tryz.prog .eql 9 (.tmp 3) (.const (.string ⟨⟨[60, 60]⟩⟩)) (s2.1.getD 0 undefA) (.str [60, 60])).bind fun v9 =>
  condEv v9
  (j8 ([(s2.1.getD 0 undefA), v9], s2.2.1, s2.2.2))
  ((M.bin Tryz.prog .eql 9 (.tmp 3) (.const (.string ⟨⟨[62, 62]⟩⟩)) (s2.1.getD 0 undefA) (.str [62, 62])).bind fun v10 =>
  j8 ([(s2.1.getD 0 undefA), v10], s2.2.1, s2.2.2)))) fun j11 =>
  (M.bin Tryz.prog .eql 9 (.tmp 3) (.const (.string ⟨⟨[60]⟩⟩)) (s1.1.getD 0 undefA) (.str [60])).bind fun v12 =>
  condEv v12
  (j11 ([(s1.1.getD 0 undefA), v12], s1.2.1, s1.2.2))
  ((M.bin Tryz.prog .eql 9 (.tmp 3) (.const (.string ⟨⟨[62]⟩⟩)) (s1.1.getD 0 undefA) (.str [62])).bind fun v13 =>
  condEv v13
  (j11 ([(s1.1.getD 0 undefA), v13], s1.2.1, s1.2.2))
  ((M.bin Tryz.prog .eql 9 (.tmp 3) (.const (.string ⟨⟨[60, 61]⟩⟩)) (s1.1.getD 0 undefA) (.str [60, 61])).bind fun v14 =>
  condEv v14
  (j11 ([(s1.1.getD 0 undefA), v14], s1.2.1, s1.2.2))
  ((M.bin Tryz.prog .eql 9 (.tmp 3) (.const (.string ⟨⟨[62, 61]⟩⟩)) (s1.1.getD 0 undefA) (.str [62, 61])).bind fun v15 =>
  j11 ([(s1.1.getD 0 undefA), v15], s1.2.1, s1.2.2)))))) fun j16 =>
  condEv (.bool (p0 == [61, 61]))
  (j16 ([(.str p0), (.bool (p0 == [61, 61]))], [], H.start))
  (j16 ([(.str p0), (.bool (p0 == [33, 61]))], [], H.start)))))))
theorem u93 {glob : Nat → Option (List AV)} {prim : Nat → Option (List AV → Heap → Out (AV × Heap))} (hp : prim 93 = none) (Γ : CallsT) (lp : LoopT Ans) (p0 : (List UInt8)) (H : Heap) : runF (X0 glob prim) lp Γ 93 [(.str p0)] H = g93 Γ lp p0 H :=
  (runF_run hp (show trieF.get 93 = some Tryz.f93 by kernel_rfl) (by kernel_rfl) (by kernel_rfl)).trans (by kernel_rfl)
theorem c93 {glob : Nat → Option (List AV)} {prim : Nat → Option (List AV → Heap → Out (AV × Heap))} (hp : prim 93 = none) (p0 : (List UInt8)) (H : Heap) {r : Ans} (h : g93 (callW (X0 glob prim)) loopW p0 H = .ok r) : callW (X0 glob prim) 93 [(.str p0)] H = .ok r := callW_of ((u93 hp ..).trans h)
/- crucible/crucibleref08.size -/
noncomputable def g94 (Γ : CallsT) (lp : LoopT Ans) (p0 : AV) (p1_0 : Int) (p1_1 : (List UInt8)) (p1_2 : Int) (p1_3 : Bool) (p1_4 : AV) (p1_5 : Int) (H : Heap) : Out Ans :=
  condEv (.bool ((p1_0 == 16)))
  ((M.bin Tryz.prog .add 9 (.const (.string ⟨⟨[115, 105, 122, 101, 111, 102, 40]⟩⟩)) (.tmp 15) (.str [115, 105, 122, 101, 111, 102, 40]) (.str p1_1)).bind fun v1 =>
  (M.bin Tryz.prog .add 9 (.tmp 16) (.const (.string ⟨⟨[41]⟩⟩)) v1 (.str [41])).bind fun v2 =>
  (Γ 41 [p0, v2] H.start).bind fun r3 =>
  .ok (gc (.tup []) H r3.2))
  (condEv (.bool ((p1_0 == 14)))
  ((Γ 41 [p0, (.str [115, 105, 122, 101, 111, 102, 32, 40])] H.start).bind fun r4 =>
  (Γ 65 [p0, (.agg [(.int .i64 p1_0), (.str p1_1), (.int .u32 p1_2), (.bool p1_3), p1_4, (.int .i64 p1_5)])] r4.2).bind fun r5 =>
  (Γ 41 [p0, (.str [41])] r5.2).bind fun r6 =>
  .ok (gc (.tup []) H r6.2))
  ((Γ 41 [p0, (.str [115, 105, 122, 101, 111, 102, 32])] H.start).bind fun r7 =>
  (Γ 44 [p0, (.agg [(.int .i64 p1_0), (.str p1_1), (.int .u32 p1_2), (.bool p1_3), p1_4, (.int .i64 p1_5)]), (.int .i64 12)] r7.2).bind fun r8 =>
  .ok (gc (.tup []) H r8.2)))
theorem u94 {glob : Nat → Option (List AV)} {prim : Nat → Option (List AV → Heap → Out (AV × Heap))} (hp : prim 94 = none) (Γ : CallsT) (lp : LoopT Ans) (p0 : AV) (p1_0 : Int) (p1_1 : (List UInt8)) (p1_2 : Int) (p1_3 : Bool) (p1_4 : AV) (p1_5 : Int) (H : Heap) : runF (X0 glob prim) lp Γ 94 [p0, (.agg [(.int .i64 p1_0), (.str p1_1), (.int .u32 p1_2), (.bool p1_3), p1_4, (.int .i64 p1_5)])] H = g94 Γ lp p0 p1_0 p1_1 p1_2 p1_3 p1_4 p1_5 H :=
  (runF_run hp (show trieF.get 94 = some Tryz.f94 by kernel_rfl) (by kernel_rfl) (by kernel_rfl)).trans (by kernel_rfl)
theorem c94 {glob : Nat → Option (List AV)} {prim : Nat → Option (List AV → Heap → Out (AV × Heap))} (hp : prim 94 = none) (p0 : AV) (p1_0 : Int) (p1_1 : (List UInt8)) (p1_2 : Int) (p1_3 : Bool) (p1_4 : AV) (p1_5 : Int) (H : Heap) {r : Ans} (h : g94 (callW (X0 glob prim)) loopW p0 p1_0 p1_1 p1_2 p1_3 p1_4 p1_5 H = .ok r) : callW (X0 glob prim) 94 [p0, (.agg [(.int .i64 p1_0), (.str p1_1), (.int .u32 p1_2), (.bool p1_3), p1_4, (.int .i64 p1_5)])] H = .ok r := callW_of ((u94 hp ..).trans h)
/- crucible/crucibleref08.simple -/
noncomputable def g95 (Γ : CallsT) (lp : LoopT Ans) (p0 : AV) (p1_0 : Int) (p1_1 : (List UInt8)) (p1_2 : Int) (p1_3 : Bool) (p1_4 : AV) (p1_5 : Int) (H : Heap) : Out Ans :=
  condEv (.bool ((p1_0 == 1)))
  ((Γ 112 [(.int .u32 p1_2)] H.start).bind fun r1 =>
  (Γ 41 [p0, r1.1] r1.2).bind fun r2 =>
  condEv (.bool p1_3)
  ((Γ 41 [p0, (.str [117])] r2.2).bind fun r3 =>
  .ok (gc (.tup []) H r3.2))
  (.ok (gc (.tup []) H r2.2)))
  (condEv (.bool ((p1_0 == 2)))
  ((M.sliceStr (.str [48, 49, 50, 51, 52, 53, 54, 55, 56, 57, 97, 98, 99, 100, 101, 102]) (some (.int .u32 (IntKind.wrap .u32 (Int.tdiv p1_2 16)))) (some (.int .u32 (IntKind.wrap .u32 ((IntKind.wrap .u32 (Int.tdiv p1_2 16)) + 1))))).bind fun v4 =>
  (M.bin Tryz.prog .add 9 (.const (.string ⟨⟨[39, 92, 120]⟩⟩)) (.tmp 27) (.str [39, 92, 120]) v4).bind fun v5 =>
  (M.sliceStr (.str [48, 49, 50, 51, 52, 53, 54, 55, 56, 57, 97, 98, 99, 100, 101, 102]) (some (.int .u32 (Int.tmod p1_2 16))) (some (.int .u32 (IntKind.wrap .u32 ((Int.tmod p1_2 16) + 1))))).bind fun v6 =>
  (M.bin Tryz.prog .add 9 (.tmp 28) (.tmp 36) v5 v6).bind fun v7 =>
  (M.bin Tryz.prog .add 9 (.tmp 37) (.const (.string ⟨⟨[39]⟩⟩)) v7 (.str [39])).bind fun v8 =>
  (Γ 41 [p0, v8] H.start).bind fun r9 =>
  .ok (gc (.tup []) H r9.2))
  (condEv (.bool ((p1_0 == 3)))
  ((Γ 113 [(.str p1_1)] H.start).bind fun r10 =>
  (Γ 41 [p0, r10.1] r10.2).bind fun r11 =>
  .ok (gc (.tup []) H r11.2))
  (condEv (.bool ((p1_0 == 4)))
  ((Γ 41 [p0, (.str p1_1)] H.start).bind fun r12 =>
  .ok (gc (.tup []) H r12.2))
  (condEv (.bool ((p1_0 == 8)))
  ((M.bin Tryz.prog .add 9 (.tmp 57) (.const (.string ⟨⟨[40]⟩⟩)) (.str p1_1) (.str [40])).bind fun v13 =>
  (Γ 41 [p0, v13] H.start).bind fun r14 =>
  (Γ 63 [p0, p1_4] r14.2).bind fun r15 =>
  (Γ 41 [p0, (.str [41])] r15.2).bind fun r16 =>
  .ok (gc (.tup []) H r16.2))
  (.ok (gc (.tup []) H H.start))))))
theorem u95 {glob : Nat → Option (List AV)} {prim : Nat → Option (List AV → Heap → Out (AV × Heap))} (hp : prim 95 = none) (Γ : CallsT) (lp : LoopT Ans) (p0 : AV) (p1_0 : Int) (p1_1 : (List UInt8)) (p1_2 : Int) (p1_3 : Bool) (p1_4 : AV) (p1_5 : Int) (H : Heap) : runF (X0 glob prim) lp Γ 95 [p0, (.agg [(.int .i64 p1_0), (.str p1_1), (.int .u32 p1_2), (.bool p1_3), p1_4, (.int .i64 p1_5)])] H = g95 Γ lp p0 p1_0 p1_1 p1_2 p1_3 p1_4 p1_5 H :=
  (runF_run hp (show trieF.get 95 = some Tryz.f95 by kernel_rfl) (by kernel_rfl) (by kernel_rfl)).trans (by kernel_rfl)
theorem c95 {glob : Nat → Option (List AV)} {prim : Nat → Option (List AV → Heap → Out (AV × Heap))} (hp : prim 95 = none) (p0 : AV) (p1_0 : Int) (p1_1 : (List UInt8)) (p1_2 : Int) (p1_3 : Bool) (p1_4 : AV) (p1_5 : Int) (H : Heap) {r : Ans} (h : g95 (callW (X0 glob prim)) loopW p0 p1_0 p1_1 p1_2 p1_3 p1_4 p1_5 H = .ok r) : callW (X0 glob prim) 95 [p0, (.agg [(.int .i64 p1_0), (.str p1_1), (.int .u32 p1_2), (.bool p1_3), p1_4, (.int .i64 p1_5)])] H = .ok r := callW_of ((u95 hp ..).trans h)
/- crucible/lexer.Named -/
noncomputable def g96_l4 (Γ : CallsT) (lp : LoopT Ans) (H : Heap) : LS → (LS → Out Ans) → Out Ans := fun s9 a10 =>
  (M.bin Tryz.prog .lss 3 (.tmp 14) (.tmp 13) (s9.1.getD 2 undefA) (s9.1.getD 1 undefA)).bind fun v11 =>
  condEv v11
  ((M.indexStr (s9.1.getD 0 undefA) (s9.1.getD 2 undefA)).bind fun v12 =>
  (Γ 115 [v12] s9.2.2).bind fun r13 =>
  (M.un .not r13.1).bind fun v14 =>
  condEv v14
  (.ok (gc (.bool false) H r13.2))
  ((M.bin Tryz.prog .add 3 (.tmp 14) (.const (.int .i64 1)) (s9.1.getD 2 undefA) (.int .i64 1)).bind fun v15 =>
  a10 ([(s9.1.getD 0 undefA), (s9.1.getD 1 undefA), v15], s9.2.1, r13.2)))
  (.ok (gc (.bool true) H s9.2.2))
noncomputable def g96 (Γ : CallsT) (lp : LoopT Ans) (p0 : (List UInt8)) (H : Heap) : Out Ans :=
  (guardEv (some (.val (.bool (p0 == [])))) false
  (.ok ((.str p0), H.start))
  (.ok (undefA, H.start))).bind fun q1 =>
  (guardEv (some (.val (.bool (p0 == [])))) false
  ((M.indexStr q1.1 (.int .i64 0)).bind fun v2 =>
  .ok (v2, q1.2))
  (.ok (undefA, q1.2))).bind fun q3 =>
  (guardEv (some (.val (.bool (p0 == [])))) false
  ((Γ 114 [q3.1] q3.2).bind fun r4 =>
  .ok (r4.1, r4.2))
  (.ok (undefA, q3.2))).bind fun q5 =>
  (guardEv (some (.val (.bool (p0 == [])))) false
  ((M.bin Tryz.prog .lss 3 (.tmp 9) (.const (.int .i64 10)) q5.1 (.int .i64 10)).bind fun v6 =>
  .ok (v6, q5.2))
  (.ok (undefA, q5.2))).bind fun q7 =>
  (M.pick (.bool (p0 == [])) (.bool true) q7.1).bind fun v8 =>
  condEv v8
  (.ok (gc (.bool false) H q7.2))
  (lp (g96_l4 Γ lp H) ([(.str p0), (.int .i64 (p0.length : Int)), (.int .i64 0)], [], q7.2))
theorem u96 {glob : Nat → Option (List AV)} {prim : Nat → Option (List AV → Heap → Out (AV × Heap))} (hp : prim 96 = none) (Γ : CallsT) (lp : LoopT Ans) (p0 : (List UInt8)) (H : Heap) : runF (X0 glob prim) lp Γ 96 [(.str p0)] H = g96 Γ lp p0 H :=
  (runF_run hp (show trieF.get 96 = some Tryz.f96 by kernel_rfl) (by kernel_rfl) (by kernel_rfl)).trans (by kernel_rfl)
theorem c96 {glob : Nat → Option (List AV)} {prim : Nat → Option (List AV → Heap → Out (AV × Heap))} (hp : prim 96 = none) (p0 : (List UInt8)) (H : Heap) {r : Ans} (h : g96 (callW (X0 glob prim)) loopW p0 H = .ok r) : callW (X0 glob prim) 96 [(.str p0)] H = .ok r := callW_of ((u96 hp ..).trans h)
/- crucible/lexer.Reserved -/
noncomputable def g97 (Γ : CallsT) (lp : LoopT Ans) (p0 : (List UInt8)) (H : Heap) : Out Ans :=
  (Γ 96 [(.str p0)] H.start).bind fun r1 =>
  (guardEv (some (.val r1.1)) true
  (.ok ((.str p0), r1.2))
  (.ok (undefA, r1.2))).bind fun q2 =>
  (guardEv (some (.val r1.1)) true
  ((M.bin Tryz.prog .add 9 (.const (.string ⟨⟨[32]⟩⟩)) (.tmp 6) (.str [32]) q2.1).bind fun v3 =>
  .ok (v3, q2.2))
  (.ok (undefA, q2.2))).bind fun q4 =>
  (guardEv (some (.val r1.1)) true
  ((M.bin Tryz.prog .add 9 (.tmp 7) (.const (.string ⟨⟨[32]⟩⟩)) q4.1 (.str [32])).bind fun v5 =>
  .ok (v5, q4.2))
  (.ok (undefA, q4.2))).bind fun q6 =>
  (guardEv (some (.val r1.1)) true
  ((Γ 98 [(.str [32, 98, 114, 101, 97, 107, 32, 99, 104, 97, 114, 32, 99, 111, 110, 116, 105, 110, 117, 101, 32, 100, 111, 32, 101, 108, 115, 101, 32, 102, 111, 114, 32, 103, 101, 116, 98, 121, 116, 101, 32, 105, 102, 32, 105, 110, 116, 32, 112, 117, 116, 98, 121, 116, 101, 32, 114, 101, 116, 117, 114, 110, 32, 115, 105, 122, 101, 111, 102, 32, 115, 116, 114, 117, 99, 116, 32, 117, 105, 110, 116, 32, 118, 111, 105, 100, 32, 119, 104, 105, 108, 101, 32]), q6.1] q6.2).bind fun r7 =>
  .ok (r7.1, r7.2))
  (.ok (undefA, q6.2))).bind fun q8 =>
  (M.pick r1.1 q8.1 (.bool false)).bind fun v9 =>
  .ok (gc v9 H q8.2)
theorem u97 {glob : Nat → Option (List AV)} {prim : Nat → Option (List AV → Heap → Out (AV × Heap))} (hp : prim 97 = none) (Γ : CallsT) (lp : LoopT Ans) (p0 : (List UInt8)) (H : Heap) : runF (X0 glob prim) lp Γ 97 [(.str p0)] H = g97 Γ lp p0 H :=
  (runF_run hp (show trieF.get 97 = some Tryz.f97 by kernel_rfl) (by kernel_rfl) (by kernel_rfl)).trans (by kernel_rfl)
theorem c97 {glob : Nat → Option (List AV)} {prim : Nat → Option (List AV → Heap → Out (AV × Heap))} (hp : prim 97 = none) (p0 : (List UInt8)) (H : Heap) {r : Ans} (h : g97 (callW (X0 glob prim)) loopW p0 H = .ok r) : callW (X0 glob prim) 97 [(.str p0)] H = .ok r := callW_of ((u97 hp ..).trans h)
/- crucible/ast.of$1 -/
noncomputable def g99 (Γ : CallsT) (lp : LoopT Ans) (p0_0 : Int) (p0_1 : (List UInt8)) (p0_2 : Int) (p0_3 : Bool) (p0_4 : AV) (p0_5 : Int) (p1 : AV) (H : Heap) : Out Ans :=
  (M.load false 1 p1 H.start).bind fun v1 =>
  (M.bin Tryz.prog .eql 3 (.tmp 5) (.tmp 6) (.int .i64 p0_0) v1).bind fun v2 =>
  .ok (gc v2 H H.start)
theorem u99 {glob : Nat → Option (List AV)} {prim : Nat → Option (List AV → Heap → Out (AV × Heap))} (hp : prim 99 = none) (Γ : CallsT) (lp : LoopT Ans) (p0_0 : Int) (p0_1 : (List UInt8)) (p0_2 : Int) (p0_3 : Bool) (p0_4 : AV) (p0_5 : Int) (p1 : AV) (H : Heap) : runF (X0 glob prim) lp Γ 99 [(.agg [(.int .i64 p0_0), (.str p0_1), (.int .u32 p0_2), (.bool p0_3), p0_4, (.int .i64 p0_5)]), p1] H = g99 Γ lp p0_0 p0_1 p0_2 p0_3 p0_4 p0_5 p1 H :=
  (runF_run hp (show trieF.get 99 = some Tryz.f99 by kernel_rfl) (by kernel_rfl) (by kernel_rfl)).trans (by kernel_rfl)
theorem c99 {glob : Nat → Option (List AV)} {prim : Nat → Option (List AV → Heap → Out (AV × Heap))} (hp : prim 99 = none) (p0_0 : Int) (p0_1 : (List UInt8)) (p0_2 : Int) (p0_3 : Bool) (p0_4 : AV) (p0_5 : Int) (p1 : AV) (H : Heap) {r : Ans} (h : g99 (callW (X0 glob prim)) loopW p0_0 p0_1 p0_2 p0_3 p0_4 p0_5 p1 H = .ok r) : callW (X0 glob prim) 99 [(.agg [(.int .i64 p0_0), (.str p0_1), (.int .u32 p0_2), (.bool p0_3), p0_4, (.int .i64 p0_5)]), p1] H = .ok r := callW_of ((u99 hp ..).trans h)
/- strings.CutPrefix -/
noncomputable def g100 (Γ : CallsT) (lp : LoopT Ans) (p0 : (List UInt8)) (p1 : (List UInt8)) (H : Heap) : Out Ans :=
  (Γ 117 [(.str p0), (.str p1)] H.start).bind fun r1 =>
  (M.extract 0 r1.1).bind fun v2 =>
  (M.extract 1 r1.1).bind fun v3 =>
  .ok (gc (.tup [v2, v3]) H r1.2)
theorem u100 {glob : Nat → Option (List AV)} {prim : Nat → Option (List AV → Heap → Out (AV × Heap))} (hp : prim 100 = none) (Γ : CallsT) (lp : LoopT Ans) (p0 : (List UInt8)) (p1 : (List UInt8)) (H : Heap) : runF (X0 glob prim) lp Γ 100 [(.str p0), (.str p1)] H = g100 Γ lp p0 p1 H :=
  (runF_run hp (show trieF.get 100 = some Tryz.f100 by kernel_rfl) (by kernel_rfl) (by kernel_rfl)).trans (by kernel_rfl)
theorem c100 {glob : Nat → Option (List AV)} {prim : Nat → Option (List AV → Heap → Out (AV × Heap))} (hp : prim 100 = none) (p0 : (List UInt8)) (p1 : (List UInt8)) (H : Heap) {r : Ans} (h : g100 (callW (X0 glob prim)) loopW p0 p1 H = .ok r) : callW (X0 glob prim) 100 [(.str p0), (.str p1)] H = .ok r := callW_of ((u100 hp ..).trans h)
/- crucible/ast.bare$1 -/
noncomputable def g101 (Γ : CallsT) (lp : LoopT Ans) (p0_0 : Int) (p0_1 : (List UInt8)) (p0_2 : Int) (p0_3 : Bool) (p0_4 : AV) (p0_5 : Int) (H : Heap) : Out Ans :=
  (guardEv (some (.val (.bool ((p0_0 != 43))))) false
  (.ok (p0_4, H.start))
  (.ok (undefA, H.start))).bind fun q1 =>
  (guardEv (some (.val (.bool ((p0_0 != 43))))) false
  ((M.len false q1.1).bind fun v2 =>
  .ok (v2, q1.2))
  (.ok (undefA, q1.2))).bind fun q3 =>
  (guardEv (some (.val (.bool ((p0_0 != 43))))) false
  ((M.bin Tryz.prog .eql 3 (.tmp 9) (.const (.int .i64 0)) q3.1 (.int .i64 0)).bind fun v4 =>
  .ok (v4, q3.2))
  (.ok (undefA, q3.2))).bind fun q5 =>
  (M.pick (.bool ((p0_0 != 43))) (.bool true) q5.1).bind fun v6 =>
  (guardEv (some (.val v6)) false
  (.ok ((.bool p0_3), q5.2))
  (.ok (undefA, q5.2))).bind fun q7 =>
  (guardEv (some (.val v6)) false
  (.ok (q7.1, q7.2))
  (.ok (undefA, q7.2))).bind fun q8 =>
  (guardEv (some (.val q8.1)) true
  (.ok (p0_4, q8.2))
  (.ok (undefA, q8.2))).bind fun q9 =>
  (guardEv (some (.val q8.1)) true
  ((M.len false q9.1).bind fun v10 =>
  .ok (v10, q9.2))
  (.ok (undefA, q9.2))).bind fun q11 =>
  (guardEv (some (.val q8.1)) true
  ((M.bin Tryz.prog .eql 3 (.tmp 18) (.const (.int .i64 1)) q11.1 (.int .i64 1)).bind fun v12 =>
  .ok (v12, q11.2))
  (.ok (undefA, q11.2))).bind fun q13 =>
  (guardEv (some (.val v6)) false
  ((M.pick q8.1 q13.1 (.bool false)).bind fun v14 =>
  .ok (v14, q13.2))
  (.ok (undefA, q13.2))).bind fun q15 =>
  (M.pick v6 (.bool true) q15.1).bind fun v16 =>
  .ok (gc v16 H q15.2)
theorem u101 {glob : Nat → Option (List AV)} {prim : Nat → Option (List AV → Heap → Out (AV × Heap))} (hp : prim 101 = none) (Γ : CallsT) (lp : LoopT Ans) (p0_0 : Int) (p0_1 : (List UInt8)) (p0_2 : Int) (p0_3 : Bool) (p0_4 : AV) (p0_5 : Int) (H : Heap) : runF (X0 glob prim) lp Γ 101 [(.agg [(.int .i64 p0_0), (.str p0_1), (.int .u32 p0_2), (.bool p0_3), p0_4, (.int .i64 p0_5)])] H = g101 Γ lp p0_0 p0_1 p0_2 p0_3 p0_4 p0_5 H :=
  (runF_run hp (show trieF.get 101 = some Tryz.f101 by kernel_rfl) (by kernel_rfl) (by kernel_rfl)).trans (by kernel_rfl)
theorem c101 {glob : Nat → Option (List AV)} {prim : Nat → Option (List AV → Heap → Out (AV × Heap))} (hp : prim 101 = none) (p0_0 : Int) (p0_1 : (List UInt8)) (p0_2 : Int) (p0_3 : Bool) (p0_4 : AV) (p0_5 : Int) (H : Heap) {r : Ans} (h : g101 (callW (X0 glob prim)) loopW p0_0 p0_1 p0_2 p0_3 p0_4 p0_5 H = .ok r) : callW (X0 glob prim) 101 [(.agg [(.int .i64 p0_0), (.str p0_1), (.int .u32 p0_2), (.bool p0_3), p0_4, (.int .i64 p0_5)])] H = .ok r := callW_of ((u101 hp ..).trans h)
/- crucible/ast.operator -/
noncomputable def g102_l2 (Γ : CallsT) (lp : LoopT Ans) (H : Heap) : LS → (LS → Out Ans) → Out Ans := fun s1 a2 =>
  (M.bin Tryz.prog .lss 3 (.tmp 7) (.tmp 6) (s1.1.getD 3 undefA) (s1.1.getD 2 undefA)).bind fun v3 =>
  condEv v3
  ((M.indexSl 1 (s1.1.getD 1 undefA) (s1.1.getD 3 undefA)).bind fun v4 =>
  (M.load false 1 v4 s1.2.2).bind fun v5 =>
  (Γ 68 [v5, (s1.1.getD 0 undefA)] s1.2.2).bind fun r6 =>
  condEv r6.1
  ((M.bin Tryz.prog .add 3 (.tmp 15) (.const (.int .i64 2)) (s1.1.getD 3 undefA) (.int .i64 2)).bind fun v7 =>
  .ok (gc v7 H r6.2))
  ((M.bin Tryz.prog .add 3 (.tmp 7) (.const (.int .i64 1)) (s1.1.getD 3 undefA) (.int .i64 1)).bind fun v8 =>
  a2 ([(s1.1.getD 0 undefA), (s1.1.getD 1 undefA), (s1.1.getD 2 undefA), v8], s1.2.1, r6.2)))
  (.ok (gc (.int .i64 0) H s1.2.2))
noncomputable def g102 (Γ : CallsT) (lp : LoopT Ans) (p0 : (List UInt8)) (H : Heap) : Out Ans :=
  lp (g102_l2 Γ lp H) ([(.str p0), (.isl 1 [(.str [124, 124]), (.str [38, 38]), (.str [124]), (.str [94]), (.str [38]), (.str [61, 61, 32, 33, 61]), (.str [60, 32, 62, 32, 60, 61, 32, 62, 61]), (.str [60, 60, 32, 62, 62]), (.str [43, 32, 45]), (.str [42, 32, 47, 32, 37])]), (.int .i64 10), (.int .i64 0)], [], H.start)
theorem u102 {glob : Nat → Option (List AV)} {prim : Nat → Option (List AV → Heap → Out (AV × Heap))} (hp : prim 102 = none) (Γ : CallsT) (lp : LoopT Ans) (p0 : (List UInt8)) (H : Heap) : runF (X0 glob prim) lp Γ 102 [(.str p0)] H = g102 Γ lp p0 H :=
  (runF_run hp (show trieF.get 102 = some Tryz.f102 by kernel_rfl) (by kernel_rfl) (by kernel_rfl)).trans (by kernel_rfl)
theorem c102 {glob : Nat → Option (List AV)} {prim : Nat → Option (List AV → Heap → Out (AV × Heap))} (hp : prim 102 = none) (p0 : (List UInt8)) (H : Heap) {r : Ans} (h : g102 (callW (X0 glob prim)) loopW p0 H = .ok r) : callW (X0 glob prim) 102 [(.str p0)] H = .ok r := callW_of ((u102 hp ..).trans h)
/- (*crucible/ast.printer).simple -/
noncomputable def g103 (Γ : CallsT) (lp : LoopT Ans) (p0 : AV) (p1_0 : Int) (p1_1 : (List UInt8)) (p1_2 : Int) (p1_3 : Bool) (p1_4 : AV) (p1_5 : Int) (H : Heap) : Out Ans :=
  jn (fun s1 =>
  .ok (gc (.bool true) H s1.2.2)) fun j2 =>
  condEv (.bool ((p1_0 == 1)))
  ((Γ 118 [(.int .u64 (IntKind.wrap .u64 p1_2)), (.int .i64 10)] H.start).bind fun r3 =>
  (M.fill (fun i => some (i * 1, 1)) [(.str [])] [(0, r3.1)]).bind fun cs4 =>
  (Γ 31 [p0, (.isl 1 (chunks false 1 1 cs4))] r3.2).bind fun r5 =>
  condEv (.bool p1_3)
  ((Γ 31 [p0, (.isl 1 [(.str [117])])] r5.2).bind fun r6 =>
  j2 ([], [(3, [(.int .i64 p1_0), (.str p1_1), (.int .u32 p1_2), (.bool p1_3), p1_4, (.int .i64 p1_5)])], r6.2))
  (j2 ([], [(3, [(.int .i64 p1_0), (.str p1_1), (.int .u32 p1_2), (.bool p1_3), p1_4, (.int .i64 p1_5)])], r5.2)))
  (condEv (.bool ((p1_0 == 2)))
  ((M.sliceStr (.str [48, 49, 50, 51, 52, 53, 54, 55, 56, 57, 97, 98, 99, 100, 101, 102]) (some (.int .u32 (Int.fdiv p1_2 (2 ^ 4)))) (some (.int .u32 (IntKind.wrap .u32 ((Int.fdiv p1_2 (2 ^ 4)) + 1))))).bind fun v7 =>
  (M.bin Tryz.prog .and 22 (.tmp 33) (.const (.int .u32 15)) (.int .u32 p1_2) (.int .u32 15)).bind fun v8 =>
  (M.bin Tryz.prog .and 22 (.tmp 36) (.const (.int .u32 15)) (.int .u32 p1_2) (.int .u32 15)).bind fun v9 =>
  (M.bin Tryz.prog .add 22 (.tmp 37) (.const (.int .u32 1)) v9 (.int .u32 1)).bind fun v10 =>
  (M.sliceStr (.str [48, 49, 50, 51, 52, 53, 54, 55, 56, 57, 97, 98, 99, 100, 101, 102]) (some v8) (some v10)).bind fun v11 =>
  (M.fill (fun i => some (i * 1, 1)) [(.str []), (.str []), (.str []), (.str [])] [(0, (.str [39, 92, 120])), (1, v7), (2, v11), (3, (.str [39]))]).bind fun cs12 =>
  (Γ 31 [p0, (.isl 1 (chunks false 1 4 cs12))] H.start).bind fun r13 =>
  j2 ([], [(3, [(.int .i64 p1_0), (.str p1_1), (.int .u32 p1_2), (.bool p1_3), p1_4, (.int .i64 p1_5)])], r13.2))
  (condEv (.bool ((p1_0 == 3)))
  ((Γ 119 [(.str p1_1)] H.start).bind fun r14 =>
  (M.fill (fun i => some (i * 1, 1)) [(.str [])] [(0, r14.1)]).bind fun cs15 =>
  (Γ 31 [p0, (.isl 1 (chunks false 1 1 cs15))] r14.2).bind fun r16 =>
  j2 ([], [(3, [(.int .i64 p1_0), (.str p1_1), (.int .u32 p1_2), (.bool p1_3), p1_4, (.int .i64 p1_5)])], r16.2))
  (jn (fun s17 =>
  condEv (s17.1.getD 2 undefA)
  (onO (Locs.find s17.2.1 3) fun cs18 =>
  (M.ldc false 1 cs18 1).bind fun v19 =>
  (M.fill (fun i => some (i * 1, 1)) [(.str [])] [(0, v19)]).bind fun cs20 =>
  (Γ 31 [(s17.1.getD 0 undefA), (.isl 1 (chunks false 1 1 cs20))] s17.2.2).bind fun r21 =>
  j2 ([], s17.2.1, r21.2))
  ((M.bin Tryz.prog .eql 3 (.tmp 6) (.const (.int .i64 5)) (s17.1.getD 1 undefA) (.int .i64 5)).bind fun v22 =>
  condEv v22
  (onO (Locs.find s17.2.1 3) fun cs23 =>
  (M.ldc false 1 cs23 4).bind fun v24 =>
  (M.indexSl 6 v24 (.int .i64 0)).bind fun v25 =>
  (M.load true 6 v25 s17.2.2).bind fun v26 =>
  (Γ 54 [(s17.1.getD 0 undefA), v26, (.int .i64 13)] s17.2.2).bind fun r27 =>
  (Γ 31 [(s17.1.getD 0 undefA), (.isl 1 [(.str [91])])] r27.2).bind fun r28 =>
  onO (Locs.find s17.2.1 3) fun cs29 =>
  (M.ldc false 1 cs29 4).bind fun v30 =>
  (M.indexSl 6 v30 (.int .i64 1)).bind fun v31 =>
  (M.load true 6 v31 r28.2).bind fun v32 =>
  (Γ 54 [(s17.1.getD 0 undefA), v32, (.int .i64 0)] r28.2).bind fun r33 =>
  (Γ 31 [(s17.1.getD 0 undefA), (.isl 1 [(.str [93])])] r33.2).bind fun r34 =>
  j2 ([], s17.2.1, r34.2))
  ((M.bin Tryz.prog .eql 3 (.tmp 6) (.const (.int .i64 6)) (s17.1.getD 1 undefA) (.int .i64 6)).bind fun v35 =>
  condEv v35
  (onO (Locs.find s17.2.1 3) fun cs36 =>
  (M.ldc false 1 cs36 4).bind fun v37 =>
  (M.indexSl 6 v37 (.int .i64 0)).bind fun v38 =>
  (M.load true 6 v38 s17.2.2).bind fun v39 =>
  (Γ 54 [(s17.1.getD 0 undefA), v39, (.int .i64 13)] s17.2.2).bind fun r40 =>
  onO (Locs.find s17.2.1 3) fun cs41 =>
  (M.ldc false 1 cs41 1).bind fun v42 =>
  (M.fill (fun i => some (i * 1, 1)) [(.str []), (.str [])] [(0, (.str [46])), (1, v42)]).bind fun cs43 =>
  (Γ 31 [(s17.1.getD 0 undefA), (.isl 1 (chunks false 1 2 cs43))] r40.2).bind fun r44 =>
  j2 ([], s17.2.1, r44.2))
  ((M.bin Tryz.prog .eql 3 (.tmp 6) (.const (.int .i64 7)) (s17.1.getD 1 undefA) (.int .i64 7)).bind fun v45 =>
  condEv v45
  (onO (Locs.find s17.2.1 3) fun cs46 =>
  (M.ldc false 1 cs46 4).bind fun v47 =>
  (M.indexSl 6 v47 (.int .i64 0)).bind fun v48 =>
  (M.load true 6 v48 s17.2.2).bind fun v49 =>
  (Γ 54 [(s17.1.getD 0 undefA), v49, (.int .i64 13)] s17.2.2).bind fun r50 =>
  onO (Locs.find s17.2.1 3) fun cs51 =>
  (M.ldc false 1 cs51 1).bind fun v52 =>
  (M.fill (fun i => some (i * 1, 1)) [(.str []), (.str [])] [(0, (.str [45, 62])), (1, v52)]).bind fun cs53 =>
  (Γ 31 [(s17.1.getD 0 undefA), (.isl 1 (chunks false 1 2 cs53))] r50.2).bind fun r54 =>
  j2 ([], s17.2.1, r54.2))
  ((M.bin Tryz.prog .eql 3 (.tmp 6) (.const (.int .i64 8)) (s17.1.getD 1 undefA) (.int .i64 8)).bind fun v55 =>
  condEv v55
  (onO (Locs.find s17.2.1 3) fun cs56 =>
  (M.ldc false 1 cs56 1).bind fun v57 =>
  (M.fill (fun i => some (i * 1, 1)) [(.str []), (.str [])] [(0, v57), (1, (.str [40]))]).bind fun cs58 =>
  (Γ 31 [(s17.1.getD 0 undefA), (.isl 1 (chunks false 1 2 cs58))] s17.2.2).bind fun r59 =>
  onO (Locs.find s17.2.1 3) fun cs60 =>
  (M.ldc false 1 cs60 4).bind fun v61 =>
  (Γ 55 [(s17.1.getD 0 undefA), v61] r59.2).bind fun r62 =>
  (Γ 31 [(s17.1.getD 0 undefA), (.isl 1 [(.str [41])])] r62.2).bind fun r63 =>
  j2 ([], s17.2.1, r63.2))
  (.ok (gc (.bool false) H s17.2.2))))))) fun j64 =>
  condEv (.bool ((p1_0 == 4)))
  (j64 ([p0, (.int .i64 p1_0), (.bool ((p1_0 == 4)))], [(3, [(.int .i64 p1_0), (.str p1_1), (.int .u32 p1_2), (.bool p1_3), p1_4, (.int .i64 p1_5)])], H.start))
  (j64 ([p0, (.int .i64 p1_0), (.bool ((p1_0 == 16)))], [(3, [(.int .i64 p1_0), (.str p1_1), (.int .u32 p1_2), (.bool p1_3), p1_4, (.int .i64 p1_5)])], H.start)))))
theorem u103 {glob : Nat → Option (List AV)} {prim : Nat → Option (List AV → Heap → Out (AV × Heap))} (hp : prim 103 = none) (Γ : CallsT) (lp : LoopT Ans) (p0 : AV) (p1_0 : Int) (p1_1 : (List UInt8)) (p1_2 : Int) (p1_3 : Bool) (p1_4 : AV) (p1_5 : Int) (H : Heap) : runF (X0 glob prim) lp Γ 103 [p0, (.agg [(.int .i64 p1_0), (.str p1_1), (.int .u32 p1_2), (.bool p1_3), p1_4, (.int .i64 p1_5)])] H = g103 Γ lp p0 p1_0 p1_1 p1_2 p1_3 p1_4 p1_5 H :=
  (runF_run hp (show trieF.get 103 = some Tryz.f103 by kernel_rfl) (by kernel_rfl) (by kernel_rfl)).trans (by kernel_rfl)
theorem c103 {glob : Nat → Option (List AV)} {prim : Nat → Option (List AV → Heap → Out (AV × Heap))} (hp : prim 103 = none) (p0 : AV) (p1_0 : Int) (p1_1 : (List UInt8)) (p1_2 : Int) (p1_3 : Bool) (p1_4 : AV) (p1_5 : Int) (H : Heap) {r : Ans} (h : g103 (callW (X0 glob prim)) loopW p0 p1_0 p1_1 p1_2 p1_3 p1_4 p1_5 H = .ok r) : callW (X0 glob prim) 103 [p0, (.agg [(.int .i64 p1_0), (.str p1_1), (.int .u32 p1_2), (.bool p1_3), p1_4, (.int .i64 p1_5)])] H = .ok r := callW_of ((u103 hp ..).trans h)
/- internal/stringslite.HasPrefix -/
noncomputable def g107 (Γ : CallsT) (lp : LoopT Ans) (p0 : (List UInt8)) (p1 : (List UInt8)) (H : Heap) : Out Ans :=
  (guardEv (some (.val (.bool (decide ((p0.length : Int) ≥ (p1.length : Int)))))) true
  (.ok ((.str p0), H.start))
  (.ok (undefA, H.start))).bind fun q1 =>
  (guardEv (some (.val (.bool (decide ((p0.length : Int) ≥ (p1.length : Int)))))) true
  (.ok ((.str p1), q1.2))
  (.ok (undefA, q1.2))).bind fun q2 =>
  (guardEv (some (.val (.bool (decide ((p0.length : Int) ≥ (p1.length : Int)))))) true
  ((M.len true q2.1).bind fun v3 =>
  .ok (v3, q2.2))
  (.ok (undefA, q2.2))).bind fun q4 =>
  (guardEv (some (.val (.bool (decide ((p0.length : Int) ≥ (p1.length : Int)))))) true
  ((M.sliceStr q1.1 none (some q4.1)).bind fun v5 =>
  .ok (v5, q4.2))
  (.ok (undefA, q4.2))).bind fun q6 =>
  (guardEv (some (.val (.bool (decide ((p0.length : Int) ≥ (p1.length : Int)))))) true
  (.ok ((.str p1), q6.2))
  (.ok (undefA, q6.2))).bind fun q7 =>
  (guardEv (some (.val (.bool (decide ((p0.length : Int) ≥ (p1.length : Int)))))) true
  ((M.bin Tryz.prog .eql 9 (.tmp 14) (.tmp 15) q6.1 q7.1).bind fun v8 =>
  .ok (v8, q7.2))
  (.ok (undefA, q7.2))).bind fun q9 =>
  (M.pick (.bool (decide ((p0.length : Int) ≥ (p1.length : Int)))) q9.1 (.bool false)).bind fun v10 =>
  .ok (gc v10 H q9.2)
theorem u107 {glob : Nat → Option (List AV)} {prim : Nat → Option (List AV → Heap → Out (AV × Heap))} (hp : prim 107 = none) (Γ : CallsT) (lp : LoopT Ans) (p0 : (List UInt8)) (p1 : (List UInt8)) (H : Heap) : runF (X0 glob prim) lp Γ 107 [(.str p0), (.str p1)] H = g107 Γ lp p0 p1 H :=
  (runF_run hp (show trieF.get 107 = some Tryz.f107 by kernel_rfl) (by kernel_rfl) (by kernel_rfl)).trans (by kernel_rfl)
theorem c107 {glob : Nat → Option (List AV)} {prim : Nat → Option (List AV → Heap → Out (AV × Heap))} (hp : prim 107 = none) (p0 : (List UInt8)) (p1 : (List UInt8)) (H : Heap) {r : Ans} (h : g107 (callW (X0 glob prim)) loopW p0 p1 H = .ok r) : callW (X0 glob prim) 107 [(.str p0), (.str p1)] H = .ok r := callW_of ((u107 hp ..).trans h)
/- crucible/crucibleref08.sign -/
noncomputable def g110_l9 (Γ : CallsT) (lp : LoopT Ans) (H : Heap) : LS → (LS → Out Ans) → Out Ans := fun s8 a9 =>
  (M.len true (s8.1.getD 1 undefA)).bind fun v10 =>
  (M.bin Tryz.prog .add 3 (.tmp 19) (.tmp 21) (s8.1.getD 2 undefA) v10).bind fun v11 =>
  (M.bin Tryz.prog .add 3 (.tmp 22) (.const (.int .i64 2)) v11 (.int .i64 2)).bind fun v12 =>
  (M.len true (s8.1.getD 0 undefA)).bind fun v13 =>
  (M.bin Tryz.prog .leq 3 (.tmp 23) (.tmp 25) v12 v13).bind fun v14 =>
  condEv v14
  ((M.indexStr (s8.1.getD 0 undefA) (s8.1.getD 2 undefA)).bind fun v15 =>
  (M.bin Tryz.prog .eql 5 (.tmp 31) (.const (.int .u8 32)) v15 (.int .u8 32)).bind fun v16 =>
  (guardEv (some (.val v16)) true
  (.ok ((s8.1.getD 0 undefA), s8.2.2))
  (.ok (undefA, s8.2.2))).bind fun q17 =>
  (guardEv (some (.val v16)) true
  (.ok ((s8.1.getD 2 undefA), q17.2))
  (.ok (undefA, q17.2))).bind fun q18 =>
  (guardEv (some (.val v16)) true
  ((M.bin Tryz.prog .add 3 (.tmp 35) (.const (.int .i64 1)) q18.1 (.int .i64 1)).bind fun v19 =>
  .ok (v19, q18.2))
  (.ok (undefA, q18.2))).bind fun q20 =>
  (guardEv (some (.val v16)) true
  (.ok ((s8.1.getD 2 undefA), q20.2))
  (.ok (undefA, q20.2))).bind fun q21 =>
  (guardEv (some (.val v16)) true
  ((M.bin Tryz.prog .add 3 (.tmp 37) (.const (.int .i64 1)) q21.1 (.int .i64 1)).bind fun v22 =>
  .ok (v22, q21.2))
  (.ok (undefA, q21.2))).bind fun q23 =>
  (guardEv (some (.val v16)) true
  (.ok ((s8.1.getD 1 undefA), q23.2))
  (.ok (undefA, q23.2))).bind fun q24 =>
  (guardEv (some (.val v16)) true
  ((M.len true q24.1).bind fun v25 =>
  .ok (v25, q24.2))
  (.ok (undefA, q24.2))).bind fun q26 =>
  (guardEv (some (.val v16)) true
  ((M.bin Tryz.prog .add 3 (.tmp 38) (.tmp 40) q23.1 q26.1).bind fun v27 =>
  .ok (v27, q26.2))
  (.ok (undefA, q26.2))).bind fun q28 =>
  (guardEv (some (.val v16)) true
  ((M.sliceStr q17.1 (some q20.1) (some q28.1)).bind fun v29 =>
  .ok (v29, q28.2))
  (.ok (undefA, q28.2))).bind fun q30 =>
  (guardEv (some (.val v16)) true
  (.ok ((s8.1.getD 1 undefA), q30.2))
  (.ok (undefA, q30.2))).bind fun q31 =>
  (guardEv (some (.val v16)) true
  ((M.bin Tryz.prog .eql 9 (.tmp 42) (.tmp 43) q30.1 q31.1).bind fun v32 =>
  .ok (v32, q31.2))
  (.ok (undefA, q31.2))).bind fun q33 =>
  (M.pick v16 q33.1 (.bool false)).bind fun v34 =>
  (guardEv (some (.val v34)) true
  (.ok ((s8.1.getD 0 undefA), q33.2))
  (.ok (undefA, q33.2))).bind fun q35 =>
  (guardEv (some (.val v34)) true
  (.ok ((s8.1.getD 2 undefA), q35.2))
  (.ok (undefA, q35.2))).bind fun q36 =>
  (guardEv (some (.val v34)) true
  ((M.bin Tryz.prog .add 3 (.tmp 48) (.const (.int .i64 1)) q36.1 (.int .i64 1)).bind fun v37 =>
  .ok (v37, q36.2))
  (.ok (undefA, q36.2))).bind fun q38 =>
  (guardEv (some (.val v34)) true
  (.ok ((s8.1.getD 1 undefA), q38.2))
  (.ok (undefA, q38.2))).bind fun q39 =>
  (guardEv (some (.val v34)) true
  ((M.len true q39.1).bind fun v40 =>
  .ok (v40, q39.2))
  (.ok (undefA, q39.2))).bind fun q41 =>
  (guardEv (some (.val v34)) true
  ((M.bin Tryz.prog .add 3 (.tmp 49) (.tmp 51) q38.1 q41.1).bind fun v42 =>
  .ok (v42, q41.2))
  (.ok (undefA, q41.2))).bind fun q43 =>
  (guardEv (some (.val v34)) true
  ((M.indexStr q35.1 q43.1).bind fun v44 =>
  .ok (v44, q43.2))
  (.ok (undefA, q43.2))).bind fun q45 =>
  (guardEv (some (.val v34)) true
  ((M.bin Tryz.prog .eql 5 (.tmp 53) (.const (.int .u8 32)) q45.1 (.int .u8 32)).bind fun v46 =>
  .ok (v46, q45.2))
  (.ok (undefA, q45.2))).bind fun q47 =>
  (M.pick v34 q47.1 (.bool false)).bind fun v48 =>
  condEv v48
  (.ok (gc (.bool true) H q47.2))
  ((M.bin Tryz.prog .add 3 (.tmp 27) (.const (.int .i64 1)) (s8.1.getD 2 undefA) (.int .i64 1)).bind fun v49 =>
  a9 ([(s8.1.getD 0 undefA), (s8.1.getD 1 undefA), v49], s8.2.1, q47.2)))
  (.ok (gc (.bool false) H s8.2.2))
noncomputable def g110_l4 (Γ : CallsT) (lp : LoopT Ans) (H : Heap) : LS → (LS → Out Ans) → Out Ans := fun s1 a2 =>
  (M.len true (s1.1.getD 1 undefA)).bind fun v3 =>
  (M.bin Tryz.prog .lss 3 (.tmp 9) (.tmp 11) (s1.1.getD 2 undefA) v3).bind fun v4 =>
  condEv v4
  ((M.indexStr (s1.1.getD 1 undefA) (s1.1.getD 2 undefA)).bind fun v5 =>
  (M.bin Tryz.prog .eql 5 (.tmp 17) (.const (.int .u8 32)) v5 (.int .u8 32)).bind fun v6 =>
  condEv v6
  (.ok (gc (.bool false) H s1.2.2))
  ((M.bin Tryz.prog .add 3 (.tmp 13) (.const (.int .i64 1)) (s1.1.getD 2 undefA) (.int .i64 1)).bind fun v7 =>
  a2 ([(s1.1.getD 0 undefA), (s1.1.getD 1 undefA), v7], s1.2.1, s1.2.2)))
  (lp (g110_l9 Γ lp H) ([(s1.1.getD 0 undefA), (s1.1.getD 1 undefA), (.int .i64 0)], s1.2.1, s1.2.2))
noncomputable def g110 (Γ : CallsT) (lp : LoopT Ans) (p0 : (List UInt8)) (p1 : (List UInt8)) (H : Heap) : Out Ans :=
  condEv (.bool (p1 == []))
  (.ok (gc (.bool false) H H.start))
  (lp (g110_l4 Γ lp H) ([(.str p0), (.str p1), (.int .i64 0)], [], H.start))
theorem u110 {glob : Nat → Option (List AV)} {prim : Nat → Option (List AV → Heap → Out (AV × Heap))} (hp : prim 110 = none) (Γ : CallsT) (lp : LoopT Ans) (p0 : (List UInt8)) (p1 : (List UInt8)) (H : Heap) : runF (X0 glob prim) lp Γ 110 [(.str p0), (.str p1)] H = g110 Γ lp p0 p1 H :=
  (runF_run hp (show trieF.get 110 = some Tryz.f110 by kernel_rfl) (by kernel_rfl) (by kernel_rfl)).trans (by kernel_rfl)
theorem c110 {glob : Nat → Option (List AV)} {prim : Nat → Option (List AV → Heap → Out (AV × Heap))} (hp : prim 110 = none) (p0 : (List UInt8)) (p1 : (List UInt8)) (H : Heap) {r : Ans} (h : g110 (callW (X0 glob prim)) loopW p0 p1 H = .ok r) : callW (X0 glob prim) 110 [(.str p0), (.str p1)] H = .ok r := callW_of ((u110 hp ..).trans h)
/- crucible/crucibleref08.Place -/
noncomputable def g111 (Γ : CallsT) (lp : LoopT Ans) (p0_0 : Int) (p0_1 : (List UInt8)) (p0_2 : Int) (p0_3 : Bool) (p0_4 : AV) (p0_5 : Int) (H : Heap) : Out Ans :=
  (guardEv (some (.val (.bool ((p0_0 == 4))))) false
  (.ok ((.int .i64 p0_0), H.start))
  (.ok (undefA, H.start))).bind fun q1 =>
  (guardEv (some (.val (.bool ((p0_0 == 4))))) false
  ((M.bin Tryz.prog .eql 3 (.tmp 8) (.const (.int .i64 5)) q1.1 (.int .i64 5)).bind fun v2 =>
  .ok (v2, q1.2))
  (.ok (undefA, q1.2))).bind fun q3 =>
  (M.pick (.bool ((p0_0 == 4))) (.bool true) q3.1).bind fun v4 =>
  (guardEv (some (.val v4)) false
  (.ok ((.int .i64 p0_0), q3.2))
  (.ok (undefA, q3.2))).bind fun q5 =>
  (guardEv (some (.val v4)) false
  ((M.bin Tryz.prog .eql 3 (.tmp 13) (.const (.int .i64 6)) q5.1 (.int .i64 6)).bind fun v6 =>
  .ok (v6, q5.2))
  (.ok (undefA, q5.2))).bind fun q7 =>
  (M.pick v4 (.bool true) q7.1).bind fun v8 =>
  (guardEv (some (.val v8)) false
  (.ok ((.int .i64 p0_0), q7.2))
  (.ok (undefA, q7.2))).bind fun q9 =>
  (guardEv (some (.val v8)) false
  ((M.bin Tryz.prog .eql 3 (.tmp 18) (.const (.int .i64 7)) q9.1 (.int .i64 7)).bind fun v10 =>
  .ok (v10, q9.2))
  (.ok (undefA, q9.2))).bind fun q11 =>
  (M.pick v8 (.bool true) q11.1).bind fun v12 =>
  .ok (gc v12 H q11.2)
theorem u111 {glob : Nat → Option (List AV)} {prim : Nat → Option (List AV → Heap → Out (AV × Heap))} (hp : prim 111 = none) (Γ : CallsT) (lp : LoopT Ans) (p0_0 : Int) (p0_1 : (List UInt8)) (p0_2 : Int) (p0_3 : Bool) (p0_4 : AV) (p0_5 : Int) (H : Heap) : runF (X0 glob prim) lp Γ 111 [(.agg [(.int .i64 p0_0), (.str p0_1), (.int .u32 p0_2), (.bool p0_3), p0_4, (.int .i64 p0_5)])] H = g111 Γ lp p0_0 p0_1 p0_2 p0_3 p0_4 p0_5 H :=
  (runF_run hp (show trieF.get 111 = some Tryz.f111 by kernel_rfl) (by kernel_rfl) (by kernel_rfl)).trans (by kernel_rfl)
theorem c111 {glob : Nat → Option (List AV)} {prim : Nat → Option (List AV → Heap → Out (AV × Heap))} (hp : prim 111 = none) (p0_0 : Int) (p0_1 : (List UInt8)) (p0_2 : Int) (p0_3 : Bool) (p0_4 : AV) (p0_5 : Int) (H : Heap) {r : Ans} (h : g111 (callW (X0 glob prim)) loopW p0_0 p0_1 p0_2 p0_3 p0_4 p0_5 H = .ok r) : callW (X0 glob prim) 111 [(.agg [(.int .i64 p0_0), (.str p0_1), (.int .u32 p0_2), (.bool p0_3), p0_4, (.int .i64 p0_5)])] H = .ok r := callW_of ((u111 hp ..).trans h)
/- crucible/crucibleref08.decimal -/
noncomputable def g112_l2 (Γ : CallsT) (lp : LoopT Ans) (H : Heap) : LS → (LS → Out Ans) → Out Ans := fun s1 a2 =>
  (M.bin Tryz.prog .gtr 22 (.tmp 5) (.const (.int .u32 0)) (s1.1.getD 0 undefA) (.int .u32 0)).bind fun v3 =>
  (guardEv (some (.val v3)) false
  (.ok ((s1.1.getD 1 undefA), s1.2.2))
  (.ok (undefA, s1.2.2))).bind fun q4 =>
  (guardEv (some (.val v3)) false
  ((M.len false q4.1).bind fun v5 =>
  .ok (v5, q4.2))
  (.ok (undefA, q4.2))).bind fun q6 =>
  (guardEv (some (.val v3)) false
  ((M.bin Tryz.prog .eql 3 (.tmp 9) (.const (.int .i64 0)) q6.1 (.int .i64 0)).bind fun v7 =>
  .ok (v7, q6.2))
  (.ok (undefA, q6.2))).bind fun q8 =>
  (M.pick v3 (.bool true) q8.1).bind fun v9 =>
  condEv v9
  ((M.bin Tryz.prog .rem 22 (.tmp 12) (.const (.int .u32 10)) (s1.1.getD 0 undefA) (.int .u32 10)).bind fun v10 =>
  (M.bin Tryz.prog .add 22 (.const (.int .u32 48)) (.tmp 13) (.int .u32 48) v10).bind fun v11 =>
  (M.conv Tryz.prog 22 5 (.int .u32) (.int .u8) v11).bind fun v12 =>
  (M.fill (fun i => some (i * 1, 1)) [(.int .u8 0)] [(0, v12)]).bind fun cs13 =>
  let h14 : Heap := (q8.2).alloc (.cells 5 cs13)
  (M.append 5 1 1 (.sl (q8.2).n 0 1 1) (s1.1.getD 1 undefA) h14).bind fun r15 =>
  (M.bin Tryz.prog .quo 22 (.tmp 19) (.const (.int .u32 10)) (s1.1.getD 0 undefA) (.int .u32 10)).bind fun v16 =>
  a2 ([v16, r15.1], s1.2.1, r15.2))
  ((M.toStr (s1.1.getD 1 undefA) q8.2).bind fun v17 =>
  .ok (gc v17 H q8.2))
noncomputable def g112 (Γ : CallsT) (lp : LoopT Ans) (p0 : Int) (H : Heap) : Out Ans :=
  lp (g112_l2 Γ lp H) ([(.int .u32 p0), (.isl 1 [])], [], H.start)
theorem u112 {glob : Nat → Option (List AV)} {prim : Nat → Option (List AV → Heap → Out (AV × Heap))} (hp : prim 112 = none) (Γ : CallsT) (lp : LoopT Ans) (p0 : Int) (H : Heap) : runF (X0 glob prim) lp Γ 112 [(.int .u32 p0)] H = g112 Γ lp p0 H :=
  (runF_run hp (show trieF.get 112 = some Tryz.f112 by kernel_rfl) (by kernel_rfl) (by kernel_rfl)).trans (by kernel_rfl)
theorem c112 {glob : Nat → Option (List AV)} {prim : Nat → Option (List AV → Heap → Out (AV × Heap))} (hp : prim 112 = none) (p0 : Int) (H : Heap) {r : Ans} (h : g112 (callW (X0 glob prim)) loopW p0 H = .ok r) : callW (X0 glob prim) 112 [(.int .u32 p0)] H = .ok r := callW_of ((u112 hp ..).trans h)
/- crucible/crucibleref07.Quote -/
noncomputable def g113_l3 (Γ : CallsT) (lp : LoopT Ans) (H : Heap) : LS → (LS → Out Ans) → Out Ans := fun s2 a3 =>
  (M.len true (s2.1.getD 0 undefA)).bind fun v4 =>
  (M.bin Tryz.prog .lss 3 (.tmp 7) (.tmp 9) (s2.1.getD 2 undefA) v4).bind fun v5 =>
  condEv v5
  (jn (fun s6 =>
  (M.bin Tryz.prog .add 3 (.tmp 11) (.const (.int .i64 1)) (s6.1.getD 2 undefA) (.int .i64 1)).bind fun v7 =>
  a3 ([(s6.1.getD 0 undefA), (s6.1.getD 1 undefA), v7], s6.2.1, s6.2.2)) fun j8 =>
  (M.indexStr (s2.1.getD 0 undefA) (s2.1.getD 2 undefA)).bind fun v9 =>
  (M.bin Tryz.prog .eql 5 (.tmp 26) (.const (.int .u8 10)) v9 (.int .u8 10)).bind fun v10 =>
  condEv v10
  ((M.append 5 1 1 (s2.1.getD 1 undefA) (.isl 1 [(.int .u8 92), (.int .u8 110)]) s2.2.2).bind fun r11 =>
  j8 ([(s2.1.getD 0 undefA), r11.1, (s2.1.getD 2 undefA)], s2.2.1, r11.2))
  ((M.bin Tryz.prog .eql 5 (.tmp 32) (.const (.int .u8 9)) v9 (.int .u8 9)).bind fun v12 =>
  condEv v12
  ((M.append 5 1 1 (s2.1.getD 1 undefA) (.isl 1 [(.int .u8 92), (.int .u8 116)]) s2.2.2).bind fun r13 =>
  j8 ([(s2.1.getD 0 undefA), r13.1, (s2.1.getD 2 undefA)], s2.2.1, r13.2))
  ((M.bin Tryz.prog .eql 5 (.tmp 38) (.const (.int .u8 13)) v9 (.int .u8 13)).bind fun v14 =>
  condEv v14
  ((M.append 5 1 1 (s2.1.getD 1 undefA) (.isl 1 [(.int .u8 92), (.int .u8 114)]) s2.2.2).bind fun r15 =>
  j8 ([(s2.1.getD 0 undefA), r15.1, (s2.1.getD 2 undefA)], s2.2.1, r15.2))
  ((M.bin Tryz.prog .eql 5 (.tmp 44) (.const (.int .u8 0)) v9 (.int .u8 0)).bind fun v16 =>
  condEv v16
  ((M.append 5 1 1 (s2.1.getD 1 undefA) (.isl 1 [(.int .u8 92), (.int .u8 48)]) s2.2.2).bind fun r17 =>
  j8 ([(s2.1.getD 0 undefA), r17.1, (s2.1.getD 2 undefA)], s2.2.1, r17.2))
  ((M.bin Tryz.prog .eql 5 (.tmp 50) (.const (.int .u8 34)) v9 (.int .u8 34)).bind fun v18 =>
  (guardEv (some (.val v18)) false
  (.ok (v9, s2.2.2))
  (.ok (undefA, s2.2.2))).bind fun q19 =>
  (guardEv (some (.val v18)) false
  ((M.bin Tryz.prog .eql 5 (.tmp 53) (.const (.int .u8 92)) q19.1 (.int .u8 92)).bind fun v20 =>
  .ok (v20, q19.2))
  (.ok (undefA, q19.2))).bind fun q21 =>
  (M.pick v18 (.bool true) q21.1).bind fun v22 =>
  condEv v22
  ((M.fill (fun i => some (i * 1, 1)) [(.int .u8 0), (.int .u8 0)] [(0, (.int .u8 92)), (1, v9)]).bind fun cs23 =>
  (M.append 5 1 1 (s2.1.getD 1 undefA) (.isl 1 (chunks false 1 2 cs23)) q21.2).bind fun r24 =>
  j8 ([(s2.1.getD 0 undefA), r24.1, (s2.1.getD 2 undefA)], s2.2.1, r24.2))
  ((M.bin Tryz.prog .geq 5 (.tmp 61) (.const (.int .u8 32)) v9 (.int .u8 32)).bind fun v25 =>
  (guardEv (some (.val v25)) true
  (.ok (v9, q21.2))
  (.ok (undefA, q21.2))).bind fun q26 =>
  (guardEv (some (.val v25)) true
  ((M.bin Tryz.prog .leq 5 (.tmp 64) (.const (.int .u8 126)) q26.1 (.int .u8 126)).bind fun v27 =>
  .ok (v27, q26.2))
  (.ok (undefA, q26.2))).bind fun q28 =>
  (M.pick v25 q28.1 (.bool false)).bind fun v29 =>
  condEv v29
  ((M.fill (fun i => some (i * 1, 1)) [(.int .u8 0)] [(0, v9)]).bind fun cs30 =>
  (M.append 5 1 1 (s2.1.getD 1 undefA) (.isl 1 (chunks false 1 1 cs30)) q28.2).bind fun r31 =>
  j8 ([(s2.1.getD 0 undefA), r31.1, (s2.1.getD 2 undefA)], s2.2.1, r31.2))
  ((M.bin Tryz.prog .shr 5 (.tmp 17) (.const (.int .u64 4)) v9 (.int .u64 4)).bind fun v32 =>
  (M.indexStr (.str [48, 49, 50, 51, 52, 53, 54, 55, 56, 57, 97, 98, 99, 100, 101, 102]) v32).bind fun v33 =>
  (M.bin Tryz.prog .and 5 (.tmp 20) (.const (.int .u8 15)) v9 (.int .u8 15)).bind fun v34 =>
  (M.indexStr (.str [48, 49, 50, 51, 52, 53, 54, 55, 56, 57, 97, 98, 99, 100, 101, 102]) v34).bind fun v35 =>
  (M.fill (fun i => some (i * 1, 1)) [(.int .u8 0), (.int .u8 0), (.int .u8 0), (.int .u8 0)] [(0, (.int .u8 92)), (1, (.int .u8 120)), (2, v33), (3, v35)]).bind fun cs36 =>
  (M.append 5 1 1 (s2.1.getD 1 undefA) (.isl 1 (chunks false 1 4 cs36)) q28.2).bind fun r37 =>
  j8 ([(s2.1.getD 0 undefA), r37.1, (s2.1.getD 2 undefA)], s2.2.1, r37.2))))))))
  ((M.append 5 1 1 (s2.1.getD 1 undefA) (.isl 1 [(.int .u8 34)]) s2.2.2).bind fun r38 =>
  (M.toStr r38.1 r38.2).bind fun v39 =>
  .ok (gc v39 H r38.2))
noncomputable def g113 (Γ : CallsT) (lp : LoopT Ans) (p0 : (List UInt8)) (H : Heap) : Out Ans :=
  let h1 : Heap := (H.start).alloc (.cells 5 [(.int .u8 34)])
  lp (g113_l3 Γ lp H) ([(.str p0), (.sl (H.start).n 0 1 1), (.int .i64 0)], [], h1)
theorem u113 {glob : Nat → Option (List AV)} {prim : Nat → Option (List AV → Heap → Out (AV × Heap))} (hp : prim 113 = none) (Γ : CallsT) (lp : LoopT Ans) (p0 : (List UInt8)) (H : Heap) : runF (X0 glob prim) lp Γ 113 [(.str p0)] H = g113 Γ lp p0 H :=
  (runF_run hp (show trieF.get 113 = some Tryz.f113 by kernel_rfl) (by kernel_rfl) (by kernel_rfl)).trans (by kernel_rfl)
theorem c113 {glob : Nat → Option (List AV)} {prim : Nat → Option (List AV → Heap → Out (AV × Heap))} (hp : prim 113 = none) (p0 : (List UInt8)) (H : Heap) {r : Ans} (h : g113 (callW (X0 glob prim)) loopW p0 H = .ok r) : callW (X0 glob prim) 113 [(.str p0)] H = .ok r := callW_of ((u113 hp ..).trans h)
/- crucible/lexer.digit -/
noncomputable def g114 (Γ : CallsT) (lp : LoopT Ans) (p0 : Int) (H : Heap) : Out Ans :=
  (guardEv (some (.val (.bool (decide (p0 ≥ 48))))) true
  (.ok ((.int .u8 p0), H.start))
  (.ok (undefA, H.start))).bind fun q1 =>
  (guardEv (some (.val (.bool (decide (p0 ≥ 48))))) true
  ((M.bin Tryz.prog .leq 5 (.tmp 7) (.const (.int .u8 57)) q1.1 (.int .u8 57)).bind fun v2 =>
  .ok (v2, q1.2))
  (.ok (undefA, q1.2))).bind fun q3 =>
  (M.pick (.bool (decide (p0 ≥ 48))) q3.1 (.bool false)).bind fun v4 =>
  condEv v4
  (.ok (gc (.int .i64 (IntKind.wrap .i64 (IntKind.wrap .u8 (p0 - 48)))) H q3.2))
  ((guardEv (some (.val (.bool (decide (p0 ≥ 97))))) true
  (.ok ((.int .u8 p0), q3.2))
  (.ok (undefA, q3.2))).bind fun q5 =>
  (guardEv (some (.val (.bool (decide (p0 ≥ 97))))) true
  ((M.bin Tryz.prog .leq 5 (.tmp 17) (.const (.int .u8 102)) q5.1 (.int .u8 102)).bind fun v6 =>
  .ok (v6, q5.2))
  (.ok (undefA, q5.2))).bind fun q7 =>
  (M.pick (.bool (decide (p0 ≥ 97))) q7.1 (.bool false)).bind fun v8 =>
  condEv v8
  (.ok (gc (.int .i64 (IntKind.wrap .i64 ((IntKind.wrap .i64 (IntKind.wrap .u8 (p0 - 97))) + 10))) H q7.2))
  ((guardEv (some (.val (.bool (decide (p0 ≥ 65))))) true
  (.ok ((.int .u8 p0), q7.2))
  (.ok (undefA, q7.2))).bind fun q9 =>
  (guardEv (some (.val (.bool (decide (p0 ≥ 65))))) true
  ((M.bin Tryz.prog .leq 5 (.tmp 28) (.const (.int .u8 70)) q9.1 (.int .u8 70)).bind fun v10 =>
  .ok (v10, q9.2))
  (.ok (undefA, q9.2))).bind fun q11 =>
  (M.pick (.bool (decide (p0 ≥ 65))) q11.1 (.bool false)).bind fun v12 =>
  condEv v12
  (.ok (gc (.int .i64 (IntKind.wrap .i64 ((IntKind.wrap .i64 (IntKind.wrap .u8 (p0 - 65))) + 10))) H q11.2))
  (.ok (gc (.int .i64 99) H q11.2))))
theorem u114 {glob : Nat → Option (List AV)} {prim : Nat → Option (List AV → Heap → Out (AV × Heap))} (hp : prim 114 = none) (Γ : CallsT) (lp : LoopT Ans) (p0 : Int) (H : Heap) : runF (X0 glob prim) lp Γ 114 [(.int .u8 p0)] H = g114 Γ lp p0 H :=
  (runF_run hp (show trieF.get 114 = some Tryz.f114 by kernel_rfl) (by kernel_rfl) (by kernel_rfl)).trans (by kernel_rfl)
theorem c114 {glob : Nat → Option (List AV)} {prim : Nat → Option (List AV → Heap → Out (AV × Heap))} (hp : prim 114 = none) (p0 : Int) (H : Heap) {r : Ans} (h : g114 (callW (X0 glob prim)) loopW p0 H = .ok r) : callW (X0 glob prim) 114 [(.int .u8 p0)] H = .ok r := callW_of ((u114 hp ..).trans h)
/- crucible/lexer.within -/
noncomputable def g115 (Γ : CallsT) (lp : LoopT Ans) (p0 : Int) (H : Heap) : Out Ans :=
  (guardEv (some (.val (.bool (decide (p0 ≥ 48))))) true
  (.ok ((.int .u8 p0), H.start))
  (.ok (undefA, H.start))).bind fun q1 =>
  (guardEv (some (.val (.bool (decide (p0 ≥ 48))))) true
  ((M.bin Tryz.prog .leq 5 (.tmp 6) (.const (.int .u8 57)) q1.1 (.int .u8 57)).bind fun v2 =>
  .ok (v2, q1.2))
  (.ok (undefA, q1.2))).bind fun q3 =>
  (M.pick (.bool (decide (p0 ≥ 48))) q3.1 (.bool false)).bind fun v4 =>
  (guardEv (some (.val v4)) false
  (.ok ((.int .u8 p0), q3.2))
  (.ok (undefA, q3.2))).bind fun q5 =>
  (guardEv (some (.val v4)) false
  ((M.bin Tryz.prog .geq 5 (.tmp 10) (.const (.int .u8 97)) q5.1 (.int .u8 97)).bind fun v6 =>
  .ok (v6, q5.2))
  (.ok (undefA, q5.2))).bind fun q7 =>
  (guardEv (some (.val v4)) false
  (.ok (q7.1, q7.2))
  (.ok (undefA, q7.2))).bind fun q8 =>
  (guardEv (some (.val q8.1)) true
  (.ok ((.int .u8 p0), q8.2))
  (.ok (undefA, q8.2))).bind fun q9 =>
  (guardEv (some (.val q8.1)) true
  ((M.bin Tryz.prog .leq 5 (.tmp 13) (.const (.int .u8 122)) q9.1 (.int .u8 122)).bind fun v10 =>
  .ok (v10, q9.2))
  (.ok (undefA, q9.2))).bind fun q11 =>
  (guardEv (some (.val v4)) false
  ((M.pick q8.1 q11.1 (.bool false)).bind fun v12 =>
  .ok (v12, q11.2))
  (.ok (undefA, q11.2))).bind fun q13 =>
  (M.pick v4 (.bool true) q13.1).bind fun v14 =>
  (guardEv (some (.val v14)) false
  (.ok ((.int .u8 p0), q13.2))
  (.ok (undefA, q13.2))).bind fun q15 =>
  (guardEv (some (.val v14)) false
  ((M.bin Tryz.prog .geq 5 (.tmp 18) (.const (.int .u8 65)) q15.1 (.int .u8 65)).bind fun v16 =>
  .ok (v16, q15.2))
  (.ok (undefA, q15.2))).bind fun q17 =>
  (guardEv (some (.val v14)) false
  (.ok (q17.1, q17.2))
  (.ok (undefA, q17.2))).bind fun q18 =>
  (guardEv (some (.val q18.1)) true
  (.ok ((.int .u8 p0), q18.2))
  (.ok (undefA, q18.2))).bind fun q19 =>
  (guardEv (some (.val q18.1)) true
  ((M.bin Tryz.prog .leq 5 (.tmp 21) (.const (.int .u8 90)) q19.1 (.int .u8 90)).bind fun v20 =>
  .ok (v20, q19.2))
  (.ok (undefA, q19.2))).bind fun q21 =>
  (guardEv (some (.val v14)) false
  ((M.pick q18.1 q21.1 (.bool false)).bind fun v22 =>
  .ok (v22, q21.2))
  (.ok (undefA, q21.2))).bind fun q23 =>
  (M.pick v14 (.bool true) q23.1).bind fun v24 =>
  (guardEv (some (.val v24)) false
  (.ok ((.int .u8 p0), q23.2))
  (.ok (undefA, q23.2))).bind fun q25 =>
  (guardEv (some (.val v24)) false
  ((M.bin Tryz.prog .eql 5 (.tmp 26) (.const (.int .u8 95)) q25.1 (.int .u8 95)).bind fun v26 =>
  .ok (v26, q25.2))
  (.ok (undefA, q25.2))).bind fun q27 =>
  (M.pick v24 (.bool true) q27.1).bind fun v28 =>
  .ok (gc v28 H q27.2)
theorem u115 {glob : Nat → Option (List AV)} {prim : Nat → Option (List AV → Heap → Out (AV × Heap))} (hp : prim 115 = none) (Γ : CallsT) (lp : LoopT Ans) (p0 : Int) (H : Heap) : runF (X0 glob prim) lp Γ 115 [(.int .u8 p0)] H = g115 Γ lp p0 H :=
  (runF_run hp (show trieF.get 115 = some Tryz.f115 by kernel_rfl) (by kernel_rfl) (by kernel_rfl)).trans (by kernel_rfl)
theorem c115 {glob : Nat → Option (List AV)} {prim : Nat → Option (List AV → Heap → Out (AV × Heap))} (hp : prim 115 = none) (p0 : Int) (H : Heap) {r : Ans} (h : g115 (callW (X0 glob prim)) loopW p0 H = .ok r) : callW (X0 glob prim) 115 [(.int .u8 p0)] H = .ok r := callW_of ((u115 hp ..).trans h)
/- internal/stringslite.CutPrefix -/
noncomputable def g117 (Γ : CallsT) (lp : LoopT Ans) (p0 : (List UInt8)) (p1 : (List UInt8)) (H : Heap) : Out Ans :=
  (Γ 107 [(.str p0), (.str p1)] H.start).bind fun r1 =>
  (M.un .not r1.1).bind fun v2 =>
  condEv v2
  (.ok (gc (.tup [(.str p0), (.bool false)]) H r1.2))
  ((M.sliceStr (.str p0) (some (.int .i64 (p1.length : Int))) none).bind fun v3 =>
  .ok (gc (.tup [v3, (.bool true)]) H r1.2))
theorem u117 {glob : Nat → Option (List AV)} {prim : Nat → Option (List AV → Heap → Out (AV × Heap))} (hp : prim 117 = none) (Γ : CallsT) (lp : LoopT Ans) (p0 : (List UInt8)) (p1 : (List UInt8)) (H : Heap) : runF (X0 glob prim) lp Γ 117 [(.str p0), (.str p1)] H = g117 Γ lp p0 p1 H :=
  (runF_run hp (show trieF.get 117 = some Tryz.f117 by kernel_rfl) (by kernel_rfl) (by kernel_rfl)).trans (by kernel_rfl)
theorem c117 {glob : Nat → Option (List AV)} {prim : Nat → Option (List AV → Heap → Out (AV × Heap))} (hp : prim 117 = none) (p0 : (List UInt8)) (p1 : (List UInt8)) (H : Heap) {r : Ans} (h : g117 (callW (X0 glob prim)) loopW p0 p1 H = .ok r) : callW (X0 glob prim) 117 [(.str p0), (.str p1)] H = .ok r := callW_of ((u117 hp ..).trans h)
/- crucible/lexer.Quote -/
noncomputable def g119_l3 (Γ : CallsT) (lp : LoopT Ans) (H : Heap) : LS → (LS → Out Ans) → Out Ans := fun s2 a3 =>
  (M.bin Tryz.prog .lss 3 (.tmp 10) (.tmp 9) (s2.1.getD 3 undefA) (s2.1.getD 2 undefA)).bind fun v4 =>
  condEv v4
  (jn (fun s5 =>
  (M.bin Tryz.prog .add 3 (.tmp 10) (.const (.int .i64 1)) (s5.1.getD 3 undefA) (.int .i64 1)).bind fun v6 =>
  a3 ([(s5.1.getD 0 undefA), (s5.1.getD 1 undefA), (s5.1.getD 2 undefA), v6], s5.2.1, s5.2.2)) fun j7 =>
  (M.indexStr (s2.1.getD 0 undefA) (s2.1.getD 3 undefA)).bind fun v8 =>
  (Γ 126 [(.str [10, 9, 13, 0, 34, 92]), v8] s2.2.2).bind fun r9 =>
  (M.bin Tryz.prog .geq 3 (.tmp 28) (.const (.int .i64 0)) r9.1 (.int .i64 0)).bind fun v10 =>
  condEv v10
  ((M.indexStr (.str [110, 116, 114, 48, 34, 92]) r9.1).bind fun v11 =>
  (M.fill (fun i => some (i * 1, 1)) [(.int .u8 0), (.int .u8 0)] [(0, (.int .u8 92)), (1, v11)]).bind fun cs12 =>
  (M.append 5 1 1 (s2.1.getD 1 undefA) (.isl 1 (chunks false 1 2 cs12)) r9.2).bind fun r13 =>
  j7 ([(s2.1.getD 0 undefA), r13.1, (s2.1.getD 2 undefA), (s2.1.getD 3 undefA)], s2.2.1, r13.2))
  ((M.bin Tryz.prog .geq 5 (.tmp 36) (.const (.int .u8 32)) v8 (.int .u8 32)).bind fun v14 =>
  (guardEv (some (.val v14)) true
  (.ok (v8, r9.2))
  (.ok (undefA, r9.2))).bind fun q15 =>
  (guardEv (some (.val v14)) true
  ((M.bin Tryz.prog .leq 5 (.tmp 39) (.const (.int .u8 126)) q15.1 (.int .u8 126)).bind fun v16 =>
  .ok (v16, q15.2))
  (.ok (undefA, q15.2))).bind fun q17 =>
  (M.pick v14 q17.1 (.bool false)).bind fun v18 =>
  condEv v18
  ((M.fill (fun i => some (i * 1, 1)) [(.int .u8 0)] [(0, v8)]).bind fun cs19 =>
  (M.append 5 1 1 (s2.1.getD 1 undefA) (.isl 1 (chunks false 1 1 cs19)) q17.2).bind fun r20 =>
  j7 ([(s2.1.getD 0 undefA), r20.1, (s2.1.getD 2 undefA), (s2.1.getD 3 undefA)], s2.2.1, r20.2))
  ((M.bin Tryz.prog .shr 5 (.tmp 19) (.const (.int .u64 4)) v8 (.int .u64 4)).bind fun v21 =>
  (M.indexStr (.str [48, 49, 50, 51, 52, 53, 54, 55, 56, 57, 97, 98, 99, 100, 101, 102]) v21).bind fun v22 =>
  (M.bin Tryz.prog .and 5 (.tmp 22) (.const (.int .u8 15)) v8 (.int .u8 15)).bind fun v23 =>
  (M.indexStr (.str [48, 49, 50, 51, 52, 53, 54, 55, 56, 57, 97, 98, 99, 100, 101, 102]) v23).bind fun v24 =>
  (M.fill (fun i => some (i * 1, 1)) [(.int .u8 0), (.int .u8 0), (.int .u8 0), (.int .u8 0)] [(0, (.int .u8 92)), (1, (.int .u8 120)), (2, v22), (3, v24)]).bind fun cs25 =>
  (M.append 5 1 1 (s2.1.getD 1 undefA) (.isl 1 (chunks false 1 4 cs25)) q17.2).bind fun r26 =>
  j7 ([(s2.1.getD 0 undefA), r26.1, (s2.1.getD 2 undefA), (s2.1.getD 3 undefA)], s2.2.1, r26.2))))
  ((M.append 5 1 1 (s2.1.getD 1 undefA) (.isl 1 [(.int .u8 34)]) s2.2.2).bind fun r27 =>
  (M.toStr r27.1 r27.2).bind fun v28 =>
  .ok (gc v28 H r27.2))
noncomputable def g119 (Γ : CallsT) (lp : LoopT Ans) (p0 : (List UInt8)) (H : Heap) : Out Ans :=
  let h1 : Heap := (H.start).alloc (.cells 5 [(.int .u8 34)])
  lp (g119_l3 Γ lp H) ([(.str p0), (.sl (H.start).n 0 1 1), (.int .i64 (p0.length : Int)), (.int .i64 0)], [], h1)
theorem u119 {glob : Nat → Option (List AV)} {prim : Nat → Option (List AV → Heap → Out (AV × Heap))} (hp : prim 119 = none) (Γ : CallsT) (lp : LoopT Ans) (p0 : (List UInt8)) (H : Heap) : runF (X0 glob prim) lp Γ 119 [(.str p0)] H = g119 Γ lp p0 H :=
  (runF_run hp (show trieF.get 119 = some Tryz.f119 by kernel_rfl) (by kernel_rfl) (by kernel_rfl)).trans (by kernel_rfl)
theorem c119 {glob : Nat → Option (List AV)} {prim : Nat → Option (List AV → Heap → Out (AV × Heap))} (hp : prim 119 = none) (p0 : (List UInt8)) (H : Heap) {r : Ans} (h : g119 (callW (X0 glob prim)) loopW p0 H = .ok r) : callW (X0 glob prim) 119 [(.str p0)] H = .ok r := callW_of ((u119 hp ..).trans h)
end Go.Proofs.YtnhblghplohonaaGreatDoor.Ab
