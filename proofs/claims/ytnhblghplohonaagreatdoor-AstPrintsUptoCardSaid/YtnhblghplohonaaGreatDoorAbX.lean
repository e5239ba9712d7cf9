/- The tables of this place: types, functions, which boxes are local blocks, what is live at loops' heads and where ways meet. (By a program of this session: tab.py.) -/
import Derived.Test.YtnhblghplohonaaGreatDoorAbK
import Derived.Test.YtnhblghplohonaaGreatDoorProg
import Derived.KernelRfl
set_option linter.unusedSimpArgs false
set_option linter.unusedVariables false
namespace Go.Proofs.YtnhblghplohonaaGreatDoor.Ab
open Go
def ti0 : TI := ⟨.other, false, 1, 0, some (.tup [])⟩
def ti1 : TI := ⟨.other, false, 1, 8, some (.v .nilFunc)⟩
def ti2 : TI := ⟨(.int .i64), false, 1, 8, some (.int .i64 0)⟩
def ti3 : TI := ⟨(.int .i64), false, 1, 8, some (.int .i64 0)⟩
def ti4 : TI := ⟨.other, false, 1, 1, some (.bool false)⟩
def ti5 : TI := ⟨(.int .u8), false, 1, 1, some (.int .u8 0)⟩
def ti6 : TI := ⟨(.int .u8), false, 1, 1, some (.int .u8 0)⟩
def ti7 : TI := ⟨(.struct [(0, 1, false), (1, 1, false), (2, 1, false), (3, 1, false)]), true, 4, 24, some (.agg [(.int .i64 0), (.int .i64 0), (.bool false), (.int .u8 0)])⟩
def ti8 : TI := ⟨(.struct [(0, 1, false), (1, 1, false), (2, 1, false), (3, 1, false)]), true, 4, 24, some (.agg [(.int .i64 0), (.int .i64 0), (.bool false), (.int .u8 0)])⟩
def ti9 : TI := ⟨.string, false, 1, 16, some (.str [])⟩
def ti10 : TI := ⟨.string, false, 1, 16, some (.str [])⟩
def ti11 : TI := ⟨.string, false, 1, 16, some (.str [])⟩
def ti12 : TI := ⟨(.int .u64), false, 1, 8, some (.int .u64 0)⟩
def ti13 : TI := ⟨(.struct [(0, 1, false), (1, 1, false)]), true, 2, 24, some (.agg [(.str []), (.int .u64 0)])⟩
def ti14 : TI := ⟨(.struct [(0, 1, false), (1, 1, false)]), true, 2, 24, some (.agg [(.str []), (.int .u64 0)])⟩
def ti15 : TI := ⟨(.pointer 120), false, 1, 8, some (.v (.pointer none))⟩
def ti16 : TI := ⟨(.pointer 123), false, 1, 8, some (.v (.pointer none))⟩
def ti17 : TI := ⟨(.pointer 130), false, 1, 8, some (.v (.pointer none))⟩
def ti18 : TI := ⟨(.struct [(0, 1, false)]), true, 1, 8, some (.agg [(.v (.pointer none))])⟩
def ti19 : TI := ⟨(.struct [(0, 1, false)]), true, 1, 8, some (.agg [(.v (.pointer none))])⟩
def ti20 : TI := ⟨.iface, false, 1, 16, some (.v .nilIface)⟩
def ti21 : TI := ⟨(.int .i32), false, 1, 4, some (.int .i32 0)⟩
def ti22 : TI := ⟨(.int .u32), false, 1, 4, some (.int .u32 0)⟩
def ti23 : TI := ⟨(.slice 25), false, 1, 24, some nilSlice⟩
def ti24 : TI := ⟨(.struct [(0, 1, false), (1, 1, false), (2, 1, false), (3, 1, false), (4, 1, false), (5, 1, false)]), true, 6, 64, some (.agg [(.int .i64 0), (.str []), (.int .u32 0), (.bool false), nilSlice, (.int .i64 0)])⟩
def ti25 : TI := ⟨(.struct [(0, 1, false), (1, 1, false), (2, 1, false), (3, 1, false), (4, 1, false), (5, 1, false)]), true, 6, 64, some (.agg [(.int .i64 0), (.str []), (.int .u32 0), (.bool false), nilSlice, (.int .i64 0)])⟩
def ti26 : TI := ⟨(.int .i64), false, 1, 8, some (.int .i64 0)⟩
def ti27 : TI := ⟨.other, false, 1, 0, some (.tup [(.str []), (.int .i64 0)])⟩
def ti28 : TI := ⟨.other, false, 1, 8, some (.v .nilFunc)⟩
def ti29 : TI := ⟨.other, false, 1, 8, some (.v .nilFunc)⟩
def ti30 : TI := ⟨.other, false, 1, 8, some (.v .nilFunc)⟩
def ti31 : TI := ⟨.other, false, 1, 8, some (.v .nilFunc)⟩
def ti32 : TI := ⟨.other, false, 1, 8, some (.v .nilFunc)⟩
def ti33 : TI := ⟨.other, false, 1, 8, some (.v .nilFunc)⟩
def ti34 : TI := ⟨.other, false, 1, 8, some (.v .nilFunc)⟩
def ti35 : TI := ⟨.other, false, 1, 8, some (.v .nilFunc)⟩
def ti36 : TI := ⟨(.pointer 39), false, 1, 8, some (.v (.pointer none))⟩
def ti37 : TI := ⟨(.slice 5), false, 1, 24, some nilSlice⟩
def ti38 : TI := ⟨(.struct [(0, 1, false)]), true, 1, 24, some (.agg [nilSlice])⟩
def ti39 : TI := ⟨(.struct [(0, 1, false)]), true, 1, 24, some (.agg [nilSlice])⟩
def ti40 : TI := ⟨.other, false, 1, 8, some (.v .nilFunc)⟩
def ti41 : TI := ⟨(.pointer 43), false, 1, 8, some (.v (.pointer none))⟩
def ti42 : TI := ⟨(.struct [(0, 1, false)]), true, 1, 24, some (.agg [nilSlice])⟩
def ti43 : TI := ⟨(.struct [(0, 1, false)]), true, 1, 24, some (.agg [nilSlice])⟩
def ti44 : TI := ⟨.other, false, 1, 8, some (.v .nilFunc)⟩
def ti45 : TI := ⟨.other, false, 1, 8, some (.v .nilFunc)⟩
def ti46 : TI := ⟨.other, false, 1, 8, some (.v .nilFunc)⟩
def ti47 : TI := ⟨.other, false, 1, 8, some (.v .nilFunc)⟩
def ti48 : TI := ⟨.other, false, 1, 8, some (.v .nilFunc)⟩
def ti49 : TI := ⟨.other, false, 1, 8, some (.v .nilFunc)⟩
def ti50 : TI := ⟨.other, false, 1, 8, some (.v .nilFunc)⟩
def ti51 : TI := ⟨.other, false, 1, 8, some (.v .nilFunc)⟩
def ti52 : TI := ⟨.other, false, 1, 8, some (.v .nilFunc)⟩
def ti53 : TI := ⟨.other, false, 1, 8, some (.v .nilFunc)⟩
def ti54 : TI := ⟨.other, false, 1, 8, some (.v .nilFunc)⟩
def ti55 : TI := ⟨.other, false, 1, 8, some (.v .nilFunc)⟩
def ti56 : TI := ⟨.other, false, 1, 8, some (.v .nilFunc)⟩
def ti57 : TI := ⟨.other, false, 1, 8, some (.v .nilFunc)⟩
def ti58 : TI := ⟨.other, false, 1, 8, some (.v .nilFunc)⟩
def ti59 : TI := ⟨(.slice 9), false, 1, 24, some nilSlice⟩
def ti60 : TI := ⟨.other, false, 1, 8, some (.v .nilFunc)⟩
def ti61 : TI := ⟨.other, false, 1, 8, some (.v .nilFunc)⟩
def ti62 : TI := ⟨.other, false, 1, 8, some (.v .nilFunc)⟩
def ti63 : TI := ⟨.other, false, 1, 8, some (.v .nilFunc)⟩
def ti64 : TI := ⟨.other, false, 1, 8, some (.v .nilFunc)⟩
def ti65 : TI := ⟨.other, false, 1, 8, some (.v .nilFunc)⟩
def ti66 : TI := ⟨(.int .u64), false, 1, 8, some (.int .u64 0)⟩
def ti67 : TI := ⟨.other, false, 1, 0, some (.tup [(.int .u64 0), (.int .u64 0)])⟩
def ti68 : TI := ⟨.other, false, 1, 8, some (.v .nilFunc)⟩
def ti69 : TI := ⟨(.pointer 71), false, 1, 8, some (.v (.pointer none))⟩
def ti70 : TI := ⟨(.struct [(0, 1, false), (1, 1, false)]), true, 2, 32, some (.agg [(.v (.pointer none)), nilSlice])⟩
def ti71 : TI := ⟨(.struct [(0, 1, false), (1, 1, false)]), true, 2, 32, some (.agg [(.v (.pointer none)), nilSlice])⟩
def ti72 : TI := ⟨.other, false, 1, 8, some (.v .nilFunc)⟩
def ti73 : TI := ⟨.iface, false, 1, 16, some (.v .nilIface)⟩
def ti74 : TI := ⟨.iface, false, 1, 16, some (.v .nilIface)⟩
def ti75 : TI := ⟨.other, false, 1, 0, some (.tup [(.int .i64 0), (.v .nilIface)])⟩
def ti76 : TI := ⟨.other, false, 1, 8, some (.v .nilFunc)⟩
def ti77 : TI := ⟨.other, false, 1, 8, some (.v .nilFunc)⟩
def ti78 : TI := ⟨.other, false, 1, 8, some (.v .nilFunc)⟩
def ti79 : TI := ⟨.other, false, 1, 8, some (.v .nilFunc)⟩
def ti80 : TI := ⟨.other, false, 1, 8, some (.v .nilFunc)⟩
def ti81 : TI := ⟨(.slice 30), false, 1, 24, some nilSlice⟩
def ti82 : TI := ⟨.other, false, 1, 0, some (.tup [(.str []), (.bool false)])⟩
def ti83 : TI := ⟨.other, false, 1, 8, some (.v .nilFunc)⟩
def ti84 : TI := ⟨.other, false, 1, 8, some (.v .nilFunc)⟩
def ti85 : TI := ⟨.other, false, 1, 0, some (.tup [(.int .u32 0), (.int .u32 0)])⟩
def ti86 : TI := ⟨.other, false, 1, 8, some (.v .nilFunc)⟩
def ti87 : TI := ⟨(.int .u64), false, 1, 8, some (.int .u64 0)⟩
def ti88 : TI := ⟨.other, false, 1, 0, some (.tup [(.int .u64 0), (.int .u64 0)])⟩
def ti89 : TI := ⟨.other, false, 1, 8, some (.v .nilFunc)⟩
def ti90 : TI := ⟨(.pointer 5), false, 1, 8, some (.v (.pointer none))⟩
def ti91 : TI := ⟨.other, false, 1, 8, some (.v .nilFunc)⟩
def ti92 : TI := ⟨.other, false, 1, 8, some (.v .nilFunc)⟩
def ti93 : TI := ⟨.other, false, 1, 8, some (.v .nilFunc)⟩
def ti94 : TI := ⟨.other, false, 1, 8, some (.v .nilFunc)⟩
def ti95 : TI := ⟨.other, false, 1, 8, some (.v .nilFunc)⟩
def ti96 : TI := ⟨.other, false, 1, 8, some (.v .nilFunc)⟩
def ti97 : TI := ⟨.other, false, 1, 8, some (.v .nilFunc)⟩
def ti98 : TI := ⟨.other, false, 1, 8, some (.v (.pointer none))⟩
def ti99 : TI := ⟨.other, false, 1, 8, some (.v .nilFunc)⟩
def ti100 : TI := ⟨.other, false, 1, 8, some (.v .nilFunc)⟩
def ti101 : TI := ⟨.other, false, 1, 8, some (.v .nilFunc)⟩
def ti102 : TI := ⟨.other, false, 1, 8, some (.v .nilFunc)⟩
def ti103 : TI := ⟨.other, false, 1, 8, some (.v .nilFunc)⟩
def ti104 : TI := ⟨(.array 24 5), true, 24, 24, some (.agg [(.int .u8 0), (.int .u8 0), (.int .u8 0), (.int .u8 0), (.int .u8 0), (.int .u8 0), (.int .u8 0), (.int .u8 0), (.int .u8 0), (.int .u8 0), (.int .u8 0), (.int .u8 0), (.int .u8 0), (.int .u8 0), (.int .u8 0), (.int .u8 0), (.int .u8 0), (.int .u8 0), (.int .u8 0), (.int .u8 0), (.int .u8 0), (.int .u8 0), (.int .u8 0), (.int .u8 0)])⟩
def ti105 : TI := ⟨.other, false, 1, 8, some (.v .nilFunc)⟩
def ti106 : TI := ⟨.other, false, 1, 8, some (.v .nilFunc)⟩
def ti107 : TI := ⟨.other, false, 1, 0, some (.tup [nilSlice, (.str [])])⟩
def ti108 : TI := ⟨.other, false, 1, 8, some (.v .nilFunc)⟩
def ti109 : TI := ⟨.other, false, 1, 8, some (.v .nilFunc)⟩
def ti110 : TI := ⟨.other, false, 1, 8, some (.v .nilFunc)⟩
def ti111 : TI := ⟨.other, false, 1, 8, some (.v .nilFunc)⟩
def ti112 : TI := ⟨(.array 20 87), true, 20, 160, some (.agg [(.int .u64 0), (.int .u64 0), (.int .u64 0), (.int .u64 0), (.int .u64 0), (.int .u64 0), (.int .u64 0), (.int .u64 0), (.int .u64 0), (.int .u64 0), (.int .u64 0), (.int .u64 0), (.int .u64 0), (.int .u64 0), (.int .u64 0), (.int .u64 0), (.int .u64 0), (.int .u64 0), (.int .u64 0), (.int .u64 0)])⟩
def ti113 : TI := ⟨(.array 65 5), true, 65, 65, some (.agg [(.int .u8 0), (.int .u8 0), (.int .u8 0), (.int .u8 0), (.int .u8 0), (.int .u8 0), (.int .u8 0), (.int .u8 0), (.int .u8 0), (.int .u8 0), (.int .u8 0), (.int .u8 0), (.int .u8 0), (.int .u8 0), (.int .u8 0), (.int .u8 0), (.int .u8 0), (.int .u8 0), (.int .u8 0), (.int .u8 0), (.int .u8 0), (.int .u8 0), (.int .u8 0), (.int .u8 0), (.int .u8 0), (.int .u8 0), (.int .u8 0), (.int .u8 0), (.int .u8 0), (.int .u8 0), (.int .u8 0), (.int .u8 0), (.int .u8 0), (.int .u8 0), (.int .u8 0), (.int .u8 0), (.int .u8 0), (.int .u8 0), (.int .u8 0), (.int .u8 0), (.int .u8 0), (.int .u8 0), (.int .u8 0), (.int .u8 0), (.int .u8 0), (.int .u8 0), (.int .u8 0), (.int .u8 0), (.int .u8 0), (.int .u8 0), (.int .u8 0), (.int .u8 0), (.int .u8 0), (.int .u8 0), (.int .u8 0), (.int .u8 0), (.int .u8 0), (.int .u8 0), (.int .u8 0), (.int .u8 0), (.int .u8 0), (.int .u8 0), (.int .u8 0), (.int .u8 0), (.int .u8 0)])⟩
def ti114 : TI := ⟨.other, false, 1, 8, some (.v .nilFunc)⟩
def ti115 : TI := ⟨.other, false, 1, 8, some (.v .nilFunc)⟩
def ti116 : TI := ⟨.other, false, 1, 8, some (.v .nilFunc)⟩
def ti117 : TI := ⟨(.array 32 5), true, 32, 32, some (.agg [(.int .u8 0), (.int .u8 0), (.int .u8 0), (.int .u8 0), (.int .u8 0), (.int .u8 0), (.int .u8 0), (.int .u8 0), (.int .u8 0), (.int .u8 0), (.int .u8 0), (.int .u8 0), (.int .u8 0), (.int .u8 0), (.int .u8 0), (.int .u8 0), (.int .u8 0), (.int .u8 0), (.int .u8 0), (.int .u8 0), (.int .u8 0), (.int .u8 0), (.int .u8 0), (.int .u8 0), (.int .u8 0), (.int .u8 0), (.int .u8 0), (.int .u8 0), (.int .u8 0), (.int .u8 0), (.int .u8 0), (.int .u8 0)])⟩
def ti118 : TI := ⟨(.array 64 5), true, 64, 64, some (.agg [(.int .u8 0), (.int .u8 0), (.int .u8 0), (.int .u8 0), (.int .u8 0), (.int .u8 0), (.int .u8 0), (.int .u8 0), (.int .u8 0), (.int .u8 0), (.int .u8 0), (.int .u8 0), (.int .u8 0), (.int .u8 0), (.int .u8 0), (.int .u8 0), (.int .u8 0), (.int .u8 0), (.int .u8 0), (.int .u8 0), (.int .u8 0), (.int .u8 0), (.int .u8 0), (.int .u8 0), (.int .u8 0), (.int .u8 0), (.int .u8 0), (.int .u8 0), (.int .u8 0), (.int .u8 0), (.int .u8 0), (.int .u8 0), (.int .u8 0), (.int .u8 0), (.int .u8 0), (.int .u8 0), (.int .u8 0), (.int .u8 0), (.int .u8 0), (.int .u8 0), (.int .u8 0), (.int .u8 0), (.int .u8 0), (.int .u8 0), (.int .u8 0), (.int .u8 0), (.int .u8 0), (.int .u8 0), (.int .u8 0), (.int .u8 0), (.int .u8 0), (.int .u8 0), (.int .u8 0), (.int .u8 0), (.int .u8 0), (.int .u8 0), (.int .u8 0), (.int .u8 0), (.int .u8 0), (.int .u8 0), (.int .u8 0), (.int .u8 0), (.int .u8 0), (.int .u8 0)])⟩
def ti119 : TI := ⟨(.struct [(0, 1, false), (1, 1, false), (2, 1, false), (3, 1, false)]), true, 4, 40, some (.agg [(.v (.pointer none)), (.v (.pointer none)), (.v (.pointer none)), (.str [])])⟩
def ti120 : TI := ⟨(.struct [(0, 1, false), (1, 1, false), (2, 1, false), (3, 1, false)]), true, 4, 40, some (.agg [(.v (.pointer none)), (.v (.pointer none)), (.v (.pointer none)), (.str [])])⟩
def ti121 : TI := ⟨(.array 0 16), true, 0, 0, some (.agg [])⟩
def ti122 : TI := ⟨(.struct [(0, 0, true)]), true, 0, 0, some (.agg [])⟩
def ti123 : TI := ⟨(.struct [(0, 0, true)]), true, 0, 0, some (.agg [])⟩
def ti124 : TI := ⟨(.int .u8), false, 1, 1, some (.int .u8 0)⟩
def ti125 : TI := ⟨(.int .u8), false, 1, 1, some (.int .u8 0)⟩
def ti126 : TI := ⟨.other, false, 1, 8, some (.v .nilFunc)⟩
def ti127 : TI := ⟨(.int .i32), false, 1, 4, some (.int .i32 0)⟩
def ti128 : TI := ⟨(.int .i32), false, 1, 4, some (.int .i32 0)⟩
def ti129 : TI := ⟨(.struct [(0, 1, false), (1, 1, false), (2, 1, false), (3, 1, false), (4, 1, false), (5, 1, false), (6, 1, false), (7, 1, false), (8, 1, false), (9, 1, false), (10, 1, false)]), true, 11, 48, some (.agg [(.int .u64 0), (.int .u64 0), (.int .u32 0), (.int .u8 0), (.int .u8 0), (.int .u8 0), (.int .u8 0), (.v .nilFunc), (.v (.pointer none)), (.int .i32 0), (.int .i32 0)])⟩
def ti130 : TI := ⟨(.struct [(0, 1, false), (1, 1, false), (2, 1, false), (3, 1, false), (4, 1, false), (5, 1, false), (6, 1, false), (7, 1, false), (8, 1, false), (9, 1, false), (10, 1, false)]), true, 11, 48, some (.agg [(.int .u64 0), (.int .u64 0), (.int .u32 0), (.int .u8 0), (.int .u8 0), (.int .u8 0), (.int .u8 0), (.v .nilFunc), (.v (.pointer none)), (.int .i32 0), (.int .i32 0)])⟩
def trieT : PT TI := (.node (.node (.node (.node (.node (.node (.node (.node .nil (some ti127) .nil) (some ti63) .nil) (some ti31) (.node .nil (some ti95) .nil)) (some ti15) (.node (.node .nil (some ti79) .nil) (some ti47) (.node .nil (some ti111) .nil))) (some ti7) (.node (.node (.node .nil (some ti71) .nil) (some ti39) (.node .nil (some ti103) .nil)) (some ti23) (.node (.node .nil (some ti87) .nil) (some ti55) (.node .nil (some ti119) .nil)))) (some ti3) (.node (.node (.node (.node .nil (some ti67) .nil) (some ti35) (.node .nil (some ti99) .nil)) (some ti19) (.node (.node .nil (some ti83) .nil) (some ti51) (.node .nil (some ti115) .nil))) (some ti11) (.node (.node (.node .nil (some ti75) .nil) (some ti43) (.node .nil (some ti107) .nil)) (some ti27) (.node (.node .nil (some ti91) .nil) (some ti59) (.node .nil (some ti123) .nil))))) (some ti1) (.node (.node (.node (.node (.node (.node .nil (some ti129) .nil) (some ti65) .nil) (some ti33) (.node .nil (some ti97) .nil)) (some ti17) (.node (.node .nil (some ti81) .nil) (some ti49) (.node .nil (some ti113) .nil))) (some ti9) (.node (.node (.node .nil (some ti73) .nil) (some ti41) (.node .nil (some ti105) .nil)) (some ti25) (.node (.node .nil (some ti89) .nil) (some ti57) (.node .nil (some ti121) .nil)))) (some ti5) (.node (.node (.node (.node .nil (some ti69) .nil) (some ti37) (.node .nil (some ti101) .nil)) (some ti21) (.node (.node .nil (some ti85) .nil) (some ti53) (.node .nil (some ti117) .nil))) (some ti13) (.node (.node (.node .nil (some ti77) .nil) (some ti45) (.node .nil (some ti109) .nil)) (some ti29) (.node (.node .nil (some ti93) .nil) (some ti61) (.node .nil (some ti125) .nil)))))) (some ti0) (.node (.node (.node (.node (.node (.node (.node .nil (some ti128) .nil) (some ti64) .nil) (some ti32) (.node .nil (some ti96) .nil)) (some ti16) (.node (.node .nil (some ti80) .nil) (some ti48) (.node .nil (some ti112) .nil))) (some ti8) (.node (.node (.node .nil (some ti72) .nil) (some ti40) (.node .nil (some ti104) .nil)) (some ti24) (.node (.node .nil (some ti88) .nil) (some ti56) (.node .nil (some ti120) .nil)))) (some ti4) (.node (.node (.node (.node .nil (some ti68) .nil) (some ti36) (.node .nil (some ti100) .nil)) (some ti20) (.node (.node .nil (some ti84) .nil) (some ti52) (.node .nil (some ti116) .nil))) (some ti12) (.node (.node (.node .nil (some ti76) .nil) (some ti44) (.node .nil (some ti108) .nil)) (some ti28) (.node (.node .nil (some ti92) .nil) (some ti60) (.node .nil (some ti124) .nil))))) (some ti2) (.node (.node (.node (.node (.node (.node .nil (some ti130) .nil) (some ti66) .nil) (some ti34) (.node .nil (some ti98) .nil)) (some ti18) (.node (.node .nil (some ti82) .nil) (some ti50) (.node .nil (some ti114) .nil))) (some ti10) (.node (.node (.node .nil (some ti74) .nil) (some ti42) (.node .nil (some ti106) .nil)) (some ti26) (.node (.node .nil (some ti90) .nil) (some ti58) (.node .nil (some ti122) .nil)))) (some ti6) (.node (.node (.node (.node .nil (some ti70) .nil) (some ti38) (.node .nil (some ti102) .nil)) (some ti22) (.node (.node .nil (some ti86) .nil) (some ti54) (.node .nil (some ti118) .nil))) (some ti14) (.node (.node (.node .nil (some ti78) .nil) (some ti46) (.node .nil (some ti110) .nil)) (some ti30) (.node (.node .nil (some ti94) .nil) (some ti62) (.node .nil (some ti126) .nil)))))))
noncomputable def trieF : PT Func := (.node (.node (.node (.node (.node (.node (.node (.node .nil (some Tryz.f127) .nil) (some Tryz.f63) .nil) (some Tryz.f31) (.node .nil (some Tryz.f95) .nil)) (some Tryz.f15) (.node (.node (.node .nil (some Tryz.f143) .nil) (some Tryz.f79) .nil) (some Tryz.f47) (.node .nil (some Tryz.f111) .nil))) (some Tryz.f7) (.node (.node (.node (.node .nil (some Tryz.f135) .nil) (some Tryz.f71) .nil) (some Tryz.f39) (.node .nil (some Tryz.f103) .nil)) (some Tryz.f23) (.node (.node .nil (some Tryz.f87) .nil) (some Tryz.f55) (.node .nil (some Tryz.f119) .nil)))) (some Tryz.f3) (.node (.node (.node (.node (.node .nil (some Tryz.f131) .nil) (some Tryz.f67) .nil) (some Tryz.f35) (.node .nil (some Tryz.f99) .nil)) (some Tryz.f19) (.node (.node .nil (some Tryz.f83) .nil) (some Tryz.f51) (.node .nil (some Tryz.f115) .nil))) (some Tryz.f11) (.node (.node (.node (.node .nil (some Tryz.f139) .nil) (some Tryz.f75) .nil) (some Tryz.f43) (.node .nil (some Tryz.f107) .nil)) (some Tryz.f27) (.node (.node .nil (some Tryz.f91) .nil) (some Tryz.f59) .nil)))) none (.node (.node (.node (.node (.node .nil (some Tryz.f65) .nil) (some Tryz.f33) (.node .nil (some Tryz.f97) .nil)) (some Tryz.f17) (.node (.node (.node .nil (some Tryz.f145) .nil) (some Tryz.f81) .nil) (some Tryz.f49) (.node .nil (some Tryz.f113) .nil))) (some Tryz.f9) (.node (.node (.node .nil (some Tryz.f73) .nil) (some Tryz.f41) (.node .nil (some Tryz.f105) .nil)) (some Tryz.f25) (.node (.node .nil (some Tryz.f89) .nil) (some Tryz.f57) (.node .nil (some Tryz.f121) .nil)))) (some Tryz.f5) (.node (.node (.node (.node (.node .nil (some Tryz.f133) .nil) (some Tryz.f69) .nil) (some Tryz.f37) (.node .nil (some Tryz.f101) .nil)) (some Tryz.f21) (.node (.node .nil (some Tryz.f85) .nil) (some Tryz.f53) (.node .nil (some Tryz.f117) .nil))) (some Tryz.f13) (.node (.node (.node (.node .nil (some Tryz.f141) .nil) (some Tryz.f77) .nil) (some Tryz.f45) (.node .nil (some Tryz.f109) .nil)) (some Tryz.f29) (.node (.node .nil (some Tryz.f93) .nil) (some Tryz.f61) (.node .nil (some Tryz.f125) .nil)))))) none (.node (.node (.node (.node (.node (.node (.node .nil (some Tryz.f128) .nil) (some Tryz.f64) .nil) (some Tryz.f32) (.node .nil (some Tryz.f96) .nil)) (some Tryz.f16) (.node (.node (.node .nil (some Tryz.f144) .nil) (some Tryz.f80) .nil) (some Tryz.f48) (.node .nil (some Tryz.f112) .nil))) (some Tryz.f8) (.node (.node (.node (.node .nil (some Tryz.f136) .nil) (some Tryz.f72) .nil) (some Tryz.f40) (.node (.node .nil (some Tryz.f168) .nil) (some Tryz.f104) .nil)) (some Tryz.f24) (.node (.node .nil (some Tryz.f88) .nil) (some Tryz.f56) .nil))) (some Tryz.f4) (.node (.node (.node (.node (.node .nil (some Tryz.f132) .nil) (some Tryz.f68) .nil) (some Tryz.f36) (.node .nil (some Tryz.f100) .nil)) (some Tryz.f20) (.node (.node .nil (some Tryz.f84) .nil) (some Tryz.f52) (.node .nil (some Tryz.f116) .nil))) (some Tryz.f12) (.node (.node (.node (.node .nil (some Tryz.f140) .nil) (some Tryz.f76) .nil) (some Tryz.f44) (.node .nil (some Tryz.f108) .nil)) (some Tryz.f28) (.node (.node .nil (some Tryz.f92) .nil) (some Tryz.f60) (.node .nil (some Tryz.f124) .nil))))) (some Tryz.f2) (.node (.node (.node (.node (.node (.node .nil (some Tryz.f130) .nil) (some Tryz.f66) .nil) (some Tryz.f34) (.node .nil (some Tryz.f98) .nil)) (some Tryz.f18) (.node (.node .nil (some Tryz.f82) .nil) (some Tryz.f50) (.node .nil (some Tryz.f114) .nil))) (some Tryz.f10) (.node (.node (.node (.node .nil (some Tryz.f138) .nil) (some Tryz.f74) .nil) (some Tryz.f42) (.node .nil (some Tryz.f106) .nil)) (some Tryz.f26) (.node (.node .nil (some Tryz.f90) .nil) (some Tryz.f58) .nil))) (some Tryz.f6) (.node (.node (.node (.node (.node .nil (some Tryz.f134) .nil) (some Tryz.f70) .nil) (some Tryz.f38) (.node .nil (some Tryz.f102) .nil)) (some Tryz.f22) (.node (.node .nil (some Tryz.f86) .nil) (some Tryz.f54) (.node .nil (some Tryz.f118) .nil))) (some Tryz.f14) (.node (.node (.node (.node .nil (some Tryz.f142) .nil) (some Tryz.f78) .nil) (some Tryz.f46) (.node .nil (some Tryz.f110) .nil)) (some Tryz.f30) (.node (.node .nil (some Tryz.f94) .nil) (some Tryz.f62) (.node .nil (some Tryz.f126) .nil)))))))
def trieLoc : PT (List Nat) := (.node (.node (.node (.node (.node (.node .nil none (.node .nil (some [3]) .nil)) (some [1, 4]) (.node .nil (some [1]) (.node .nil (some [1]) .nil))) none (.node (.node (.node .nil (some [1]) .nil) (some [2]) (.node .nil (some [3]) .nil)) (some [4]) (.node .nil (some [5]) .nil))) (some [1]) (.node (.node (.node .nil (some [3, 6]) (.node .nil (some [2]) .nil)) (some [1, 5]) (.node .nil (some [1]) .nil)) (some [1]) (.node (.node (.node .nil (some [1]) .nil) (some [3, 6]) .nil) (some [3]) (.node (.node .nil (some [1]) .nil) (some [1]) .nil)))) none (.node (.node (.node (.node (.node .nil (some [3]) .nil) none .nil) (some [0, 1]) (.node (.node .nil (some [1]) .nil) (some [1]) .nil)) (some [2, 4]) (.node (.node (.node .nil (some [1]) .nil) none .nil) (some [2]) .nil)) (some [1]) (.node (.node (.node (.node .nil (some [1]) .nil) none (.node .nil (some [1]) .nil)) (some [1]) (.node .nil (some [2]) .nil)) (some [1]) (.node (.node (.node .nil (some [1]) .nil) (some [6]) .nil) none (.node .nil (some [2]) .nil))))) none (.node (.node (.node (.node (.node (.node .nil (some [1]) .nil) (some [3, 5]) .nil) none (.node .nil (some [1]) .nil)) (some [1]) (.node (.node .nil (some [1]) .nil) (some [1]) .nil)) (some [2, 5]) (.node (.node (.node .nil (some [3]) .nil) (some [2, 6]) .nil) (some [1]) (.node (.node (.node .nil (some [1]) .nil) (some [4]) .nil) (some [1]) (.node (.node .nil (some [1]) .nil) (some [1]) .nil)))) none (.node (.node (.node (.node .nil (some [3]) .nil) (some [2]) (.node (.node .nil (some [3, 5]) .nil) (some [1]) .nil)) (some [2, 3]) (.node (.node (.node .nil (some [1]) .nil) (some [3]) .nil) (some [1, 5]) .nil)) (some [1]) (.node (.node (.node .nil (some [1]) .nil) (some [3, 5]) (.node .nil (some [4]) .nil)) (some [5]) (.node (.node (.node .nil (some [1]) .nil) (some [3]) .nil) (some [6]) (.node (.node .nil (some [3]) .nil) (some [1]) .nil))))))
def trieLive : PT (List (Nat × List Nat)) := (.node (.node (.node (.node (.node (.node (.node .nil (some [(1, [0, 1, 4])]) .nil) (some [(1, [0, 6, 7, 8])]) .nil) (some [(4, [3])]) .nil) none (.node (.node (.node (.node .nil (some [(11, [0, 1, 3, 4, 10, 11, 12, 13, 14, 15, 16]), (18, [0, 1, 3, 4, 10, 11, 12, 13, 17])]) .nil) none .nil) none .nil) none (.node .nil (some [(1, [0, 6, 7, 8])]) (.node .nil (some [(3, [0, 3, 9, 10])]) .nil)))) none (.node (.node (.node (.node (.node .nil (some [(5, [0, 1, 5, 6, 7, 8, 9]), (11, [0, 1, 5, 6, 7, 8, 10])]) .nil) (some [(4, [0, 12, 13, 14])]) .nil) (some [(4, [0, 4, 24, 25, 26])]) .nil) (some [(3, [3, 7, 8, 9])]) .nil) none (.node (.node .nil (some [(4, [0, 4, 5])]) .nil) (some [(9, [0, 4])]) .nil))) none (.node (.node (.node .nil none (.node .nil none (.node .nil (some [(3, [0, 3, 4])]) .nil))) (some [(4, [1, 5, 6])]) (.node .nil (some [(4, [1, 5])]) (.node .nil (some [(2, [0, 3])]) .nil))) none (.node .nil none (.node .nil none (.node .nil (some [(4, [5])]) .nil))))) none (.node (.node (.node (.node (.node .nil (some [(3, [0, 11, 12, 13])]) (.node .nil (some [(4, [0, 13, 14])]) .nil)) (some [(1, [0, 1, 4])]) (.node (.node .nil (some [(2, [0, 1, 7, 8])]) .nil) none (.node .nil (some [(2, [0, 3])]) .nil))) none (.node (.node (.node (.node .nil (some [(1, [0, 2, 3])]) .nil) none .nil) (some [(4, [3])]) .nil) (some [(4, [3])]) (.node .nil (some [(38, [7, 8, 9])]) .nil))) none (.node (.node .nil (some [(3, [1, 10, 11, 12])]) .nil) none (.node .nil none (.node .nil none (.node .nil (some [(15, [0, 1, 5, 6, 7, 8, 9, 10])]) .nil))))) none (.node (.node (.node .nil (some [(3, [1, 5])]) .nil) (some [(4, [43, 44])]) (.node (.node (.node (.node .nil (some [(3, [0, 4, 5]), (8, [4, 6, 7, 8])]) .nil) none .nil) none .nil) (some [(5, [3, 4])]) (.node .nil (some [(4, [0, 3])]) .nil))) none (.node (.node (.node (.node (.node .nil (some [(1, [0, 1, 4])]) .nil) none .nil) none (.node .nil (some [(2, [0, 5, 6, 7])]) .nil)) (some [(25, [0, 100, 101, 102])]) .nil) (some [(1, [0, 6, 7, 8])]) (.node (.node .nil (some [(3, [0, 4])]) (.node .nil (some [(4, [0, 1, 5]), (9, [0, 1, 6])]) .nil)) none (.node .nil (some [(19, [4])]) .nil))))))
def trieJoin : PT (List (Nat × List Nat)) := (.node (.node (.node (.node (.node (.node (.node .nil (some [(5, [0, 1, 4])]) .nil) none .nil) none .nil) none (.node (.node (.node (.node .nil (some [(3, [0, 1, 2, 3, 4, 10, 11]), (7, [0, 1, 2, 3, 4, 10, 11, 12, 13]), (25, [0, 3, 4, 10, 11, 12, 13]), (28, [0, 4, 10, 11, 12, 13])]) .nil) none .nil) (some [(8, [1, 5])]) (.node .nil (some [(13, [0, 6, 50]), (29, [])]) .nil)) none (.node .nil (some [(5, [0, 6, 7, 8])]) (.node .nil (some [(12, [0, 3, 9, 10])]) .nil)))) none (.node (.node (.node .nil (some [(8, [0, 4, 24, 25, 26]), (11, [0, 4, 24, 25, 26])]) .nil) none .nil) none (.node (.node .nil (some [(5, [0, 4, 5]), (8, [0, 4, 5]), (12, [0, 4, 5])]) .nil) (some [(13, [0, 4]), (50, [0])]) (.node (.node .nil (some [(14, [4, 64])]) .nil) none .nil)))) none (.node (.node (.node (.node (.node .nil (some [(18, [0]), (26, [0, 5, 108])]) .nil) none .nil) none (.node (.node .nil (some [(8, [4, 9]), (12, [15])]) .nil) none (.node .nil (some [(4, [0, 3, 4])]) .nil))) none .nil) none (.node (.node (.node (.node .nil (some [(6, [5])]) .nil) none .nil) none (.node (.node .nil (some [(3, [0, 1])]) .nil) none .nil)) none (.node .nil none (.node (.node .nil (some [(14, [3, 14]), (19, [3, 17]), (22, [3, 22]), (25, [25])]) .nil) none .nil))))) none (.node (.node (.node (.node (.node (.node .nil (some [(8, [4, 9]), (12, [15])]) .nil) (some [(7, [0, 11, 12, 13]), (9, [0, 11, 12, 13])]) .nil) none (.node .nil (some [(15, [3, 13, 86])]) .nil)) none (.node .nil none (.node .nil (some [(8, [0, 1]), (11, [0, 6]), (20, [0, 7, 43]), (30, [0, 7]), (35, [0, 7, 8])]) .nil))) none (.node (.node (.node .nil (some [(13, [0])]) .nil) (some [(8, [1])]) .nil) none (.node (.node (.node (.node .nil (some [(4, [0, 2]), (7, [0, 2]), (10, [0, 2])]) .nil) none .nil) none .nil) (some [(7, [])]) (.node (.node .nil (some [(6, [24])]) .nil) none (.node .nil (some [(21, [0, 1, 5, 6, 7, 8, 9, 10])]) .nil))))) none (.node (.node (.node (.node .nil (some [(7, [0, 4]), (9, [0, 4])]) .nil) none (.node (.node .nil (some [(25, [0, 11, 99])]) .nil) none .nil)) none (.node (.node (.node (.node .nil (some [(12, [4, 6, 7, 8])]) .nil) (some [(8, [])]) .nil) (some [(7, [0, 4]), (9, [0, 4])]) .nil) none .nil)) none (.node (.node (.node (.node (.node .nil (some [(20, [0, 4, 12]), (25, [0, 4, 12])]) .nil) none .nil) none .nil) (some [(29, [0, 100, 101, 102]), (36, [0])]) .nil) none (.node (.node (.node .nil (some [(6, [3])]) .nil) (some [(4, [0, 4]), (7, [0, 4])]) .nil) none (.node .nil (some [(27, [3, 12, 126])]) .nil))))))
def trieFrz : PT (List Nat) := (.node (.node (.node (.node .nil none (.node (.node .nil none (.node .nil (some [14, 19, 40, 48, 56, 67, 76, 89, 102, 109, 116]) .nil)) none (.node .nil (some [16]) (.node .nil (some [33, 44, 25, 48]) .nil)))) none (.node (.node (.node .nil (some [19, 34, 48, 53, 57]) .nil) none (.node .nil (some [133]) .nil)) none .nil)) none (.node (.node (.node (.node .nil (some [5, 11]) .nil) none (.node .nil none (.node .nil (some [29, 35, 41, 47, 58, 69, 23, 72]) .nil))) (some [29]) .nil) none .nil)) none (.node (.node (.node (.node (.node .nil (some [7, 21, 31]) .nil) none (.node .nil (some [83, 100, 141, 157, 173, 182, 198, 208, 217]) (.node .nil (some [4]) .nil))) none .nil) none (.node (.node (.node .nil (some [17, 22, 27, 34, 43]) .nil) none .nil) none .nil)) none (.node (.node (.node (.node .nil (some [8, 15, 28, 36, 44, 53]) .nil) none (.node (.node .nil (some [17, 59, 86, 91, 97, 76, 115, 134, 143, 162]) .nil) (some [23, 28, 32, 45, 50, 55]) .nil)) none .nil) none (.node (.node (.node .nil none (.node .nil (some [5]) .nil)) (some [30, 60, 79, 86, 96, 110, 117, 131]) (.node .nil (some [11, 17]) .nil)) none (.node .nil (some [10, 17]) .nil)))))
def hasNat : List Nat → Nat → Bool
  | [], _ => false
  | x :: r, d => x == d || hasNat r d
def assocNat : List (Nat × List Nat) → Nat → Option (List Nat)
  | [], _ => none
  | (x, v) :: r, d => if x == d then some v else assocNat r d
noncomputable def X0 (glob : Nat → Option (List AV)) (prim : Nat → Option (List AV → Heap → Out (AV × Heap))) : Ctx where
  P := Tryz.prog
  T := trieT.get
  F := trieF.get
  loc f d := hasNat ((trieLoc.get f).getD []) d
  frz f d := hasNat ((trieFrz.get f).getD []) d
  live f d := (assocNat ((trieLive.get f).getD []) d).getD []
  join f d := assocNat ((trieJoin.get f).getD []) d
  fz f := hasNat [70, 9, 17] f
  glob := glob
  prim := prim
theorem PT.all {α : Type} {Q : Nat → α → Prop} : ∀ (l : List (Nat × α)), (∀ x ∈ l, Q x.1 x.2) → ∀ {t : PT α}, t = l.foldl (fun t x => t.set x.1 (some x.2)) .nil → ∀ i a, t.get i = some a → Q i a := by
  intro l h t ht i a hi
  subst ht
  have key : ∀ (l : List (Nat × α)) (t : PT α), (∀ i a, t.get i = some a → Q i a) → (∀ x ∈ l, Q x.1 x.2) → ∀ i a, (l.foldl (fun t x => t.set x.1 (some x.2)) t).get i = some a → Q i a := by
    intro l
    induction l with
    | nil => intro t h1 h2 i a h3; exact h1 i a h3
    | cons x l ih =>
      intro t h1 h2 i a h3
      refine ih (t.set x.1 (some x.2)) (fun j b hj => ?_) (fun y hy => h2 y (List.mem_cons_of_mem _ hy)) i a h3
      rw [PT.get_set] at hj
      split at hj
      · rename_i e; cases hj; subst e; exact h2 x (List.mem_cons_self ..)
      · exact h1 j b hj
  exact key l .nil (fun i a h => by cases h) h i a hi
noncomputable def listT : List (Nat × TI) := [(0, ti0), (1, ti1), (2, ti2), (3, ti3), (4, ti4), (5, ti5), (6, ti6), (7, ti7), (8, ti8), (9, ti9), (10, ti10), (11, ti11), (12, ti12), (13, ti13), (14, ti14), (15, ti15), (16, ti16), (17, ti17), (18, ti18), (19, ti19), (20, ti20), (21, ti21), (22, ti22), (23, ti23), (24, ti24), (25, ti25), (26, ti26), (27, ti27), (28, ti28), (29, ti29), (30, ti30), (31, ti31), (32, ti32), (33, ti33), (34, ti34), (35, ti35), (36, ti36), (37, ti37), (38, ti38), (39, ti39), (40, ti40), (41, ti41), (42, ti42), (43, ti43), (44, ti44), (45, ti45), (46, ti46), (47, ti47), (48, ti48), (49, ti49), (50, ti50), (51, ti51), (52, ti52), (53, ti53), (54, ti54), (55, ti55), (56, ti56), (57, ti57), (58, ti58), (59, ti59), (60, ti60), (61, ti61), (62, ti62), (63, ti63), (64, ti64), (65, ti65), (66, ti66), (67, ti67), (68, ti68), (69, ti69), (70, ti70), (71, ti71), (72, ti72), (73, ti73), (74, ti74), (75, ti75), (76, ti76), (77, ti77), (78, ti78), (79, ti79), (80, ti80), (81, ti81), (82, ti82), (83, ti83), (84, ti84), (85, ti85), (86, ti86), (87, ti87), (88, ti88), (89, ti89), (90, ti90), (91, ti91), (92, ti92), (93, ti93), (94, ti94), (95, ti95), (96, ti96), (97, ti97), (98, ti98), (99, ti99), (100, ti100), (101, ti101), (102, ti102), (103, ti103), (104, ti104), (105, ti105), (106, ti106), (107, ti107), (108, ti108), (109, ti109), (110, ti110), (111, ti111), (112, ti112), (113, ti113), (114, ti114), (115, ti115), (116, ti116), (117, ti117), (118, ti118), (119, ti119), (120, ti120), (121, ti121), (122, ti122), (123, ti123), (124, ti124), (125, ti125), (126, ti126), (127, ti127), (128, ti128), (129, ti129), (130, ti130)]
noncomputable def listF : List (Nat × Func) := [(2, Tryz.f2), (3, Tryz.f3), (4, Tryz.f4), (5, Tryz.f5), (6, Tryz.f6), (7, Tryz.f7), (8, Tryz.f8), (9, Tryz.f9), (10, Tryz.f10), (11, Tryz.f11), (12, Tryz.f12), (13, Tryz.f13), (14, Tryz.f14), (15, Tryz.f15), (16, Tryz.f16), (17, Tryz.f17), (18, Tryz.f18), (19, Tryz.f19), (20, Tryz.f20), (21, Tryz.f21), (22, Tryz.f22), (23, Tryz.f23), (24, Tryz.f24), (25, Tryz.f25), (26, Tryz.f26), (27, Tryz.f27), (28, Tryz.f28), (29, Tryz.f29), (30, Tryz.f30), (31, Tryz.f31), (32, Tryz.f32), (33, Tryz.f33), (34, Tryz.f34), (35, Tryz.f35), (36, Tryz.f36), (37, Tryz.f37), (38, Tryz.f38), (39, Tryz.f39), (40, Tryz.f40), (41, Tryz.f41), (42, Tryz.f42), (43, Tryz.f43), (44, Tryz.f44), (45, Tryz.f45), (46, Tryz.f46), (47, Tryz.f47), (48, Tryz.f48), (49, Tryz.f49), (50, Tryz.f50), (51, Tryz.f51), (52, Tryz.f52), (53, Tryz.f53), (54, Tryz.f54), (55, Tryz.f55), (56, Tryz.f56), (57, Tryz.f57), (58, Tryz.f58), (59, Tryz.f59), (60, Tryz.f60), (61, Tryz.f61), (62, Tryz.f62), (63, Tryz.f63), (64, Tryz.f64), (65, Tryz.f65), (66, Tryz.f66), (67, Tryz.f67), (68, Tryz.f68), (69, Tryz.f69), (70, Tryz.f70), (71, Tryz.f71), (72, Tryz.f72), (73, Tryz.f73), (74, Tryz.f74), (75, Tryz.f75), (76, Tryz.f76), (77, Tryz.f77), (78, Tryz.f78), (79, Tryz.f79), (80, Tryz.f80), (81, Tryz.f81), (82, Tryz.f82), (83, Tryz.f83), (84, Tryz.f84), (85, Tryz.f85), (86, Tryz.f86), (87, Tryz.f87), (88, Tryz.f88), (89, Tryz.f89), (90, Tryz.f90), (91, Tryz.f91), (92, Tryz.f92), (93, Tryz.f93), (94, Tryz.f94), (95, Tryz.f95), (96, Tryz.f96), (97, Tryz.f97), (98, Tryz.f98), (99, Tryz.f99), (100, Tryz.f100), (101, Tryz.f101), (102, Tryz.f102), (103, Tryz.f103), (104, Tryz.f104), (105, Tryz.f105), (106, Tryz.f106), (107, Tryz.f107), (108, Tryz.f108), (109, Tryz.f109), (110, Tryz.f110), (111, Tryz.f111), (112, Tryz.f112), (113, Tryz.f113), (114, Tryz.f114), (115, Tryz.f115), (116, Tryz.f116), (117, Tryz.f117), (118, Tryz.f118), (119, Tryz.f119), (121, Tryz.f121), (124, Tryz.f124), (125, Tryz.f125), (126, Tryz.f126), (127, Tryz.f127), (128, Tryz.f128), (130, Tryz.f130), (131, Tryz.f131), (132, Tryz.f132), (133, Tryz.f133), (134, Tryz.f134), (135, Tryz.f135), (136, Tryz.f136), (138, Tryz.f138), (139, Tryz.f139), (140, Tryz.f140), (141, Tryz.f141), (142, Tryz.f142), (143, Tryz.f143), (144, Tryz.f144), (145, Tryz.f145), (168, Tryz.f168)]
theorem trieT_eq : trieT = listT.foldl (fun t x => t.set x.1 (some x.2)) .nil := by kernel_rfl
theorem trieF_eq : trieF = listF.foldl (fun t x => t.set x.1 (some x.2)) .nil := by kernel_rfl
theorem okT0 : tiOf Tryz.prog 0 = some ti0 := by kernel_rfl
theorem okT1 : tiOf Tryz.prog 1 = some ti1 := by kernel_rfl
theorem okT2 : tiOf Tryz.prog 2 = some ti2 := by kernel_rfl
theorem okT3 : tiOf Tryz.prog 3 = some ti3 := by kernel_rfl
theorem okT4 : tiOf Tryz.prog 4 = some ti4 := by kernel_rfl
theorem okT5 : tiOf Tryz.prog 5 = some ti5 := by kernel_rfl
theorem okT6 : tiOf Tryz.prog 6 = some ti6 := by kernel_rfl
theorem okT7 : tiOf Tryz.prog 7 = some ti7 := by kernel_rfl
theorem okT8 : tiOf Tryz.prog 8 = some ti8 := by kernel_rfl
theorem okT9 : tiOf Tryz.prog 9 = some ti9 := by kernel_rfl
theorem okT10 : tiOf Tryz.prog 10 = some ti10 := by kernel_rfl
theorem okT11 : tiOf Tryz.prog 11 = some ti11 := by kernel_rfl
theorem okT12 : tiOf Tryz.prog 12 = some ti12 := by kernel_rfl
theorem okT13 : tiOf Tryz.prog 13 = some ti13 := by kernel_rfl
theorem okT14 : tiOf Tryz.prog 14 = some ti14 := by kernel_rfl
theorem okT15 : tiOf Tryz.prog 15 = some ti15 := by kernel_rfl
theorem okT16 : tiOf Tryz.prog 16 = some ti16 := by kernel_rfl
theorem okT17 : tiOf Tryz.prog 17 = some ti17 := by kernel_rfl
theorem okT18 : tiOf Tryz.prog 18 = some ti18 := by kernel_rfl
theorem okT19 : tiOf Tryz.prog 19 = some ti19 := by kernel_rfl
theorem okT20 : tiOf Tryz.prog 20 = some ti20 := by kernel_rfl
theorem okT21 : tiOf Tryz.prog 21 = some ti21 := by kernel_rfl
theorem okT22 : tiOf Tryz.prog 22 = some ti22 := by kernel_rfl
theorem okT23 : tiOf Tryz.prog 23 = some ti23 := by kernel_rfl
theorem okT24 : tiOf Tryz.prog 24 = some ti24 := by kernel_rfl
theorem okT25 : tiOf Tryz.prog 25 = some ti25 := by kernel_rfl
theorem okT26 : tiOf Tryz.prog 26 = some ti26 := by kernel_rfl
theorem okT27 : tiOf Tryz.prog 27 = some ti27 := by kernel_rfl
theorem okT28 : tiOf Tryz.prog 28 = some ti28 := by kernel_rfl
theorem okT29 : tiOf Tryz.prog 29 = some ti29 := by kernel_rfl
theorem okT30 : tiOf Tryz.prog 30 = some ti30 := by kernel_rfl
theorem okT31 : tiOf Tryz.prog 31 = some ti31 := by kernel_rfl
theorem okT32 : tiOf Tryz.prog 32 = some ti32 := by kernel_rfl
theorem okT33 : tiOf Tryz.prog 33 = some ti33 := by kernel_rfl
theorem okT34 : tiOf Tryz.prog 34 = some ti34 := by kernel_rfl
theorem okT35 : tiOf Tryz.prog 35 = some ti35 := by kernel_rfl
theorem okT36 : tiOf Tryz.prog 36 = some ti36 := by kernel_rfl
theorem okT37 : tiOf Tryz.prog 37 = some ti37 := by kernel_rfl
theorem okT38 : tiOf Tryz.prog 38 = some ti38 := by kernel_rfl
theorem okT39 : tiOf Tryz.prog 39 = some ti39 := by kernel_rfl
theorem okT40 : tiOf Tryz.prog 40 = some ti40 := by kernel_rfl
theorem okT41 : tiOf Tryz.prog 41 = some ti41 := by kernel_rfl
theorem okT42 : tiOf Tryz.prog 42 = some ti42 := by kernel_rfl
theorem okT43 : tiOf Tryz.prog 43 = some ti43 := by kernel_rfl
theorem okT44 : tiOf Tryz.prog 44 = some ti44 := by kernel_rfl
theorem okT45 : tiOf Tryz.prog 45 = some ti45 := by kernel_rfl
theorem okT46 : tiOf Tryz.prog 46 = some ti46 := by kernel_rfl
theorem okT47 : tiOf Tryz.prog 47 = some ti47 := by kernel_rfl
theorem okT48 : tiOf Tryz.prog 48 = some ti48 := by kernel_rfl
theorem okT49 : tiOf Tryz.prog 49 = some ti49 := by kernel_rfl
theorem okT50 : tiOf Tryz.prog 50 = some ti50 := by kernel_rfl
theorem okT51 : tiOf Tryz.prog 51 = some ti51 := by kernel_rfl
theorem okT52 : tiOf Tryz.prog 52 = some ti52 := by kernel_rfl
theorem okT53 : tiOf Tryz.prog 53 = some ti53 := by kernel_rfl
theorem okT54 : tiOf Tryz.prog 54 = some ti54 := by kernel_rfl
theorem okT55 : tiOf Tryz.prog 55 = some ti55 := by kernel_rfl
theorem okT56 : tiOf Tryz.prog 56 = some ti56 := by kernel_rfl
theorem okT57 : tiOf Tryz.prog 57 = some ti57 := by kernel_rfl
theorem okT58 : tiOf Tryz.prog 58 = some ti58 := by kernel_rfl
theorem okT59 : tiOf Tryz.prog 59 = some ti59 := by kernel_rfl
theorem okT60 : tiOf Tryz.prog 60 = some ti60 := by kernel_rfl
theorem okT61 : tiOf Tryz.prog 61 = some ti61 := by kernel_rfl
theorem okT62 : tiOf Tryz.prog 62 = some ti62 := by kernel_rfl
theorem okT63 : tiOf Tryz.prog 63 = some ti63 := by kernel_rfl
theorem okT64 : tiOf Tryz.prog 64 = some ti64 := by kernel_rfl
theorem okT65 : tiOf Tryz.prog 65 = some ti65 := by kernel_rfl
theorem okT66 : tiOf Tryz.prog 66 = some ti66 := by kernel_rfl
theorem okT67 : tiOf Tryz.prog 67 = some ti67 := by kernel_rfl
theorem okT68 : tiOf Tryz.prog 68 = some ti68 := by kernel_rfl
theorem okT69 : tiOf Tryz.prog 69 = some ti69 := by kernel_rfl
theorem okT70 : tiOf Tryz.prog 70 = some ti70 := by kernel_rfl
theorem okT71 : tiOf Tryz.prog 71 = some ti71 := by kernel_rfl
theorem okT72 : tiOf Tryz.prog 72 = some ti72 := by kernel_rfl
theorem okT73 : tiOf Tryz.prog 73 = some ti73 := by kernel_rfl
theorem okT74 : tiOf Tryz.prog 74 = some ti74 := by kernel_rfl
theorem okT75 : tiOf Tryz.prog 75 = some ti75 := by kernel_rfl
theorem okT76 : tiOf Tryz.prog 76 = some ti76 := by kernel_rfl
theorem okT77 : tiOf Tryz.prog 77 = some ti77 := by kernel_rfl
theorem okT78 : tiOf Tryz.prog 78 = some ti78 := by kernel_rfl
theorem okT79 : tiOf Tryz.prog 79 = some ti79 := by kernel_rfl
theorem okT80 : tiOf Tryz.prog 80 = some ti80 := by kernel_rfl
theorem okT81 : tiOf Tryz.prog 81 = some ti81 := by kernel_rfl
theorem okT82 : tiOf Tryz.prog 82 = some ti82 := by kernel_rfl
theorem okT83 : tiOf Tryz.prog 83 = some ti83 := by kernel_rfl
theorem okT84 : tiOf Tryz.prog 84 = some ti84 := by kernel_rfl
theorem okT85 : tiOf Tryz.prog 85 = some ti85 := by kernel_rfl
theorem okT86 : tiOf Tryz.prog 86 = some ti86 := by kernel_rfl
theorem okT87 : tiOf Tryz.prog 87 = some ti87 := by kernel_rfl
theorem okT88 : tiOf Tryz.prog 88 = some ti88 := by kernel_rfl
theorem okT89 : tiOf Tryz.prog 89 = some ti89 := by kernel_rfl
theorem okT90 : tiOf Tryz.prog 90 = some ti90 := by kernel_rfl
theorem okT91 : tiOf Tryz.prog 91 = some ti91 := by kernel_rfl
theorem okT92 : tiOf Tryz.prog 92 = some ti92 := by kernel_rfl
theorem okT93 : tiOf Tryz.prog 93 = some ti93 := by kernel_rfl
theorem okT94 : tiOf Tryz.prog 94 = some ti94 := by kernel_rfl
theorem okT95 : tiOf Tryz.prog 95 = some ti95 := by kernel_rfl
theorem okT96 : tiOf Tryz.prog 96 = some ti96 := by kernel_rfl
theorem okT97 : tiOf Tryz.prog 97 = some ti97 := by kernel_rfl
theorem okT98 : tiOf Tryz.prog 98 = some ti98 := by kernel_rfl
theorem okT99 : tiOf Tryz.prog 99 = some ti99 := by kernel_rfl
theorem okT100 : tiOf Tryz.prog 100 = some ti100 := by kernel_rfl
theorem okT101 : tiOf Tryz.prog 101 = some ti101 := by kernel_rfl
theorem okT102 : tiOf Tryz.prog 102 = some ti102 := by kernel_rfl
theorem okT103 : tiOf Tryz.prog 103 = some ti103 := by kernel_rfl
theorem okT104 : tiOf Tryz.prog 104 = some ti104 := by kernel_rfl
theorem okT105 : tiOf Tryz.prog 105 = some ti105 := by kernel_rfl
theorem okT106 : tiOf Tryz.prog 106 = some ti106 := by kernel_rfl
theorem okT107 : tiOf Tryz.prog 107 = some ti107 := by kernel_rfl
theorem okT108 : tiOf Tryz.prog 108 = some ti108 := by kernel_rfl
theorem okT109 : tiOf Tryz.prog 109 = some ti109 := by kernel_rfl
theorem okT110 : tiOf Tryz.prog 110 = some ti110 := by kernel_rfl
theorem okT111 : tiOf Tryz.prog 111 = some ti111 := by kernel_rfl
theorem okT112 : tiOf Tryz.prog 112 = some ti112 := by kernel_rfl
theorem okT113 : tiOf Tryz.prog 113 = some ti113 := by kernel_rfl
theorem okT114 : tiOf Tryz.prog 114 = some ti114 := by kernel_rfl
theorem okT115 : tiOf Tryz.prog 115 = some ti115 := by kernel_rfl
theorem okT116 : tiOf Tryz.prog 116 = some ti116 := by kernel_rfl
theorem okT117 : tiOf Tryz.prog 117 = some ti117 := by kernel_rfl
theorem okT118 : tiOf Tryz.prog 118 = some ti118 := by kernel_rfl
theorem okT119 : tiOf Tryz.prog 119 = some ti119 := by kernel_rfl
theorem okT120 : tiOf Tryz.prog 120 = some ti120 := by kernel_rfl
theorem okT121 : tiOf Tryz.prog 121 = some ti121 := by kernel_rfl
theorem okT122 : tiOf Tryz.prog 122 = some ti122 := by kernel_rfl
theorem okT123 : tiOf Tryz.prog 123 = some ti123 := by kernel_rfl
theorem okT124 : tiOf Tryz.prog 124 = some ti124 := by kernel_rfl
theorem okT125 : tiOf Tryz.prog 125 = some ti125 := by kernel_rfl
theorem okT126 : tiOf Tryz.prog 126 = some ti126 := by kernel_rfl
theorem okT127 : tiOf Tryz.prog 127 = some ti127 := by kernel_rfl
theorem okT128 : tiOf Tryz.prog 128 = some ti128 := by kernel_rfl
theorem okT129 : tiOf Tryz.prog 129 = some ti129 := by kernel_rfl
theorem okT130 : tiOf Tryz.prog 130 = some ti130 := by kernel_rfl
theorem okT : ∀ x ∈ listT, tiOf Tryz.prog x.1 = some x.2 := by
  intro x hx
  simp only [listT, List.mem_cons, List.not_mem_nil, or_false] at hx
  rcases hx with rfl | rfl | rfl | rfl | rfl | rfl | rfl | rfl | rfl | rfl | rfl | rfl | rfl | rfl | rfl | rfl | rfl | rfl | rfl | rfl | rfl | rfl | rfl | rfl | rfl | rfl | rfl | rfl | rfl | rfl | rfl | rfl | rfl | rfl | rfl | rfl | rfl | rfl | rfl | rfl | rfl | rfl | rfl | rfl | rfl | rfl | rfl | rfl | rfl | rfl | rfl | rfl | rfl | rfl | rfl | rfl | rfl | rfl | rfl | rfl | rfl | rfl | rfl | rfl | rfl | rfl | rfl | rfl | rfl | rfl | rfl | rfl | rfl | rfl | rfl | rfl | rfl | rfl | rfl | rfl | rfl | rfl | rfl | rfl | rfl | rfl | rfl | rfl | rfl | rfl | rfl | rfl | rfl | rfl | rfl | rfl | rfl | rfl | rfl | rfl | rfl | rfl | rfl | rfl | rfl | rfl | rfl | rfl | rfl | rfl | rfl | rfl | rfl | rfl | rfl | rfl | rfl | rfl | rfl | rfl | rfl | rfl | rfl | rfl | rfl | rfl | rfl | rfl | rfl | rfl | rfl
  · exact okT0
  · exact okT1
  · exact okT2
  · exact okT3
  · exact okT4
  · exact okT5
  · exact okT6
  · exact okT7
  · exact okT8
  · exact okT9
  · exact okT10
  · exact okT11
  · exact okT12
  · exact okT13
  · exact okT14
  · exact okT15
  · exact okT16
  · exact okT17
  · exact okT18
  · exact okT19
  · exact okT20
  · exact okT21
  · exact okT22
  · exact okT23
  · exact okT24
  · exact okT25
  · exact okT26
  · exact okT27
  · exact okT28
  · exact okT29
  · exact okT30
  · exact okT31
  · exact okT32
  · exact okT33
  · exact okT34
  · exact okT35
  · exact okT36
  · exact okT37
  · exact okT38
  · exact okT39
  · exact okT40
  · exact okT41
  · exact okT42
  · exact okT43
  · exact okT44
  · exact okT45
  · exact okT46
  · exact okT47
  · exact okT48
  · exact okT49
  · exact okT50
  · exact okT51
  · exact okT52
  · exact okT53
  · exact okT54
  · exact okT55
  · exact okT56
  · exact okT57
  · exact okT58
  · exact okT59
  · exact okT60
  · exact okT61
  · exact okT62
  · exact okT63
  · exact okT64
  · exact okT65
  · exact okT66
  · exact okT67
  · exact okT68
  · exact okT69
  · exact okT70
  · exact okT71
  · exact okT72
  · exact okT73
  · exact okT74
  · exact okT75
  · exact okT76
  · exact okT77
  · exact okT78
  · exact okT79
  · exact okT80
  · exact okT81
  · exact okT82
  · exact okT83
  · exact okT84
  · exact okT85
  · exact okT86
  · exact okT87
  · exact okT88
  · exact okT89
  · exact okT90
  · exact okT91
  · exact okT92
  · exact okT93
  · exact okT94
  · exact okT95
  · exact okT96
  · exact okT97
  · exact okT98
  · exact okT99
  · exact okT100
  · exact okT101
  · exact okT102
  · exact okT103
  · exact okT104
  · exact okT105
  · exact okT106
  · exact okT107
  · exact okT108
  · exact okT109
  · exact okT110
  · exact okT111
  · exact okT112
  · exact okT113
  · exact okT114
  · exact okT115
  · exact okT116
  · exact okT117
  · exact okT118
  · exact okT119
  · exact okT120
  · exact okT121
  · exact okT122
  · exact okT123
  · exact okT124
  · exact okT125
  · exact okT126
  · exact okT127
  · exact okT128
  · exact okT129
  · exact okT130
def smallF (f : Func) : Bool := match f.body with
  | some c => smallC f.ntmps c
  | none => true
theorem okS2 : smallF Tryz.f2 = true := by kernel_rfl
theorem okS3 : smallF Tryz.f3 = true := by kernel_rfl
theorem okS4 : smallF Tryz.f4 = true := by kernel_rfl
theorem okS5 : smallF Tryz.f5 = true := by kernel_rfl
theorem okS6 : smallF Tryz.f6 = true := by kernel_rfl
theorem okS7 : smallF Tryz.f7 = true := by kernel_rfl
theorem okS8 : smallF Tryz.f8 = true := by kernel_rfl
theorem okS9 : smallF Tryz.f9 = true := by kernel_rfl
theorem okS10 : smallF Tryz.f10 = true := by kernel_rfl
theorem okS11 : smallF Tryz.f11 = true := by kernel_rfl
theorem okS12 : smallF Tryz.f12 = true := by kernel_rfl
theorem okS13 : smallF Tryz.f13 = true := by kernel_rfl
theorem okS14 : smallF Tryz.f14 = true := by kernel_rfl
theorem okS15 : smallF Tryz.f15 = true := by kernel_rfl
theorem okS16 : smallF Tryz.f16 = true := by kernel_rfl
theorem okS17 : smallF Tryz.f17 = true := by kernel_rfl
theorem okS18 : smallF Tryz.f18 = true := by kernel_rfl
theorem okS19 : smallF Tryz.f19 = true := by kernel_rfl
theorem okS20 : smallF Tryz.f20 = true := by kernel_rfl
theorem okS21 : smallF Tryz.f21 = true := by kernel_rfl
theorem okS22 : smallF Tryz.f22 = true := by kernel_rfl
theorem okS23 : smallF Tryz.f23 = true := by kernel_rfl
theorem okS24 : smallF Tryz.f24 = true := by kernel_rfl
theorem okS25 : smallF Tryz.f25 = true := by kernel_rfl
theorem okS26 : smallF Tryz.f26 = true := by kernel_rfl
theorem okS27 : smallF Tryz.f27 = true := by kernel_rfl
theorem okS28 : smallF Tryz.f28 = true := by kernel_rfl
theorem okS29 : smallF Tryz.f29 = true := by kernel_rfl
theorem okS30 : smallF Tryz.f30 = true := by kernel_rfl
theorem okS31 : smallF Tryz.f31 = true := by kernel_rfl
theorem okS32 : smallF Tryz.f32 = true := by kernel_rfl
theorem okS33 : smallF Tryz.f33 = true := by kernel_rfl
theorem okS34 : smallF Tryz.f34 = true := by kernel_rfl
theorem okS35 : smallF Tryz.f35 = true := by kernel_rfl
theorem okS36 : smallF Tryz.f36 = true := by kernel_rfl
theorem okS37 : smallF Tryz.f37 = true := by kernel_rfl
theorem okS38 : smallF Tryz.f38 = true := by kernel_rfl
theorem okS39 : smallF Tryz.f39 = true := by kernel_rfl
theorem okS40 : smallF Tryz.f40 = true := by kernel_rfl
theorem okS41 : smallF Tryz.f41 = true := by kernel_rfl
theorem okS42 : smallF Tryz.f42 = true := by kernel_rfl
theorem okS43 : smallF Tryz.f43 = true := by kernel_rfl
theorem okS44 : smallF Tryz.f44 = true := by kernel_rfl
theorem okS45 : smallF Tryz.f45 = true := by kernel_rfl
theorem okS46 : smallF Tryz.f46 = true := by kernel_rfl
theorem okS47 : smallF Tryz.f47 = true := by kernel_rfl
theorem okS48 : smallF Tryz.f48 = true := by kernel_rfl
theorem okS49 : smallF Tryz.f49 = true := by kernel_rfl
theorem okS50 : smallF Tryz.f50 = true := by kernel_rfl
theorem okS51 : smallF Tryz.f51 = true := by kernel_rfl
theorem okS52 : smallF Tryz.f52 = true := by kernel_rfl
theorem okS53 : smallF Tryz.f53 = true := by kernel_rfl
theorem okS54 : smallF Tryz.f54 = true := by kernel_rfl
theorem okS55 : smallF Tryz.f55 = true := by kernel_rfl
theorem okS56 : smallF Tryz.f56 = true := by kernel_rfl
theorem okS57 : smallF Tryz.f57 = true := by kernel_rfl
theorem okS58 : smallF Tryz.f58 = true := by kernel_rfl
theorem okS59 : smallF Tryz.f59 = true := by kernel_rfl
theorem okS60 : smallF Tryz.f60 = true := by kernel_rfl
theorem okS61 : smallF Tryz.f61 = true := by kernel_rfl
theorem okS62 : smallF Tryz.f62 = true := by kernel_rfl
theorem okS63 : smallF Tryz.f63 = true := by kernel_rfl
theorem okS64 : smallF Tryz.f64 = true := by kernel_rfl
theorem okS65 : smallF Tryz.f65 = true := by kernel_rfl
theorem okS66 : smallF Tryz.f66 = true := by kernel_rfl
theorem okS67 : smallF Tryz.f67 = true := by kernel_rfl
theorem okS68 : smallF Tryz.f68 = true := by kernel_rfl
theorem okS69 : smallF Tryz.f69 = true := by kernel_rfl
theorem okS70 : smallF Tryz.f70 = true := by kernel_rfl
theorem okS71 : smallF Tryz.f71 = true := by kernel_rfl
theorem okS72 : smallF Tryz.f72 = true := by kernel_rfl
theorem okS73 : smallF Tryz.f73 = true := by kernel_rfl
theorem okS74 : smallF Tryz.f74 = true := by kernel_rfl
theorem okS75 : smallF Tryz.f75 = true := by kernel_rfl
theorem okS76 : smallF Tryz.f76 = true := by kernel_rfl
theorem okS77 : smallF Tryz.f77 = true := by kernel_rfl
theorem okS78 : smallF Tryz.f78 = true := by kernel_rfl
theorem okS79 : smallF Tryz.f79 = true := by kernel_rfl
theorem okS80 : smallF Tryz.f80 = true := by kernel_rfl
theorem okS81 : smallF Tryz.f81 = true := by kernel_rfl
theorem okS82 : smallF Tryz.f82 = true := by kernel_rfl
theorem okS83 : smallF Tryz.f83 = true := by kernel_rfl
theorem okS84 : smallF Tryz.f84 = true := by kernel_rfl
theorem okS85 : smallF Tryz.f85 = true := by kernel_rfl
theorem okS86 : smallF Tryz.f86 = true := by kernel_rfl
theorem okS87 : smallF Tryz.f87 = true := by kernel_rfl
theorem okS88 : smallF Tryz.f88 = true := by kernel_rfl
theorem okS89 : smallF Tryz.f89 = true := by kernel_rfl
theorem okS90 : smallF Tryz.f90 = true := by kernel_rfl
theorem okS91 : smallF Tryz.f91 = true := by kernel_rfl
theorem okS92 : smallF Tryz.f92 = true := by kernel_rfl
theorem okS93 : smallF Tryz.f93 = true := by kernel_rfl
theorem okS94 : smallF Tryz.f94 = true := by kernel_rfl
theorem okS95 : smallF Tryz.f95 = true := by kernel_rfl
theorem okS96 : smallF Tryz.f96 = true := by kernel_rfl
theorem okS97 : smallF Tryz.f97 = true := by kernel_rfl
theorem okS98 : smallF Tryz.f98 = true := by kernel_rfl
theorem okS99 : smallF Tryz.f99 = true := by kernel_rfl
theorem okS100 : smallF Tryz.f100 = true := by kernel_rfl
theorem okS101 : smallF Tryz.f101 = true := by kernel_rfl
theorem okS102 : smallF Tryz.f102 = true := by kernel_rfl
theorem okS103 : smallF Tryz.f103 = true := by kernel_rfl
theorem okS104 : smallF Tryz.f104 = true := by kernel_rfl
theorem okS105 : smallF Tryz.f105 = true := by kernel_rfl
theorem okS106 : smallF Tryz.f106 = true := by kernel_rfl
theorem okS107 : smallF Tryz.f107 = true := by kernel_rfl
theorem okS108 : smallF Tryz.f108 = true := by kernel_rfl
theorem okS109 : smallF Tryz.f109 = true := by kernel_rfl
theorem okS110 : smallF Tryz.f110 = true := by kernel_rfl
theorem okS111 : smallF Tryz.f111 = true := by kernel_rfl
theorem okS112 : smallF Tryz.f112 = true := by kernel_rfl
theorem okS113 : smallF Tryz.f113 = true := by kernel_rfl
theorem okS114 : smallF Tryz.f114 = true := by kernel_rfl
theorem okS115 : smallF Tryz.f115 = true := by kernel_rfl
theorem okS116 : smallF Tryz.f116 = true := by kernel_rfl
theorem okS117 : smallF Tryz.f117 = true := by kernel_rfl
theorem okS118 : smallF Tryz.f118 = true := by kernel_rfl
theorem okS119 : smallF Tryz.f119 = true := by kernel_rfl
theorem okS121 : smallF Tryz.f121 = true := by kernel_rfl
theorem okS124 : smallF Tryz.f124 = true := by kernel_rfl
theorem okS125 : smallF Tryz.f125 = true := by kernel_rfl
theorem okS126 : smallF Tryz.f126 = true := by kernel_rfl
theorem okS127 : smallF Tryz.f127 = true := by kernel_rfl
theorem okS128 : smallF Tryz.f128 = true := by kernel_rfl
theorem okS130 : smallF Tryz.f130 = true := by kernel_rfl
theorem okS131 : smallF Tryz.f131 = true := by kernel_rfl
theorem okS132 : smallF Tryz.f132 = true := by kernel_rfl
theorem okS133 : smallF Tryz.f133 = true := by kernel_rfl
theorem okS134 : smallF Tryz.f134 = true := by kernel_rfl
theorem okS135 : smallF Tryz.f135 = true := by kernel_rfl
theorem okS136 : smallF Tryz.f136 = true := by kernel_rfl
theorem okS138 : smallF Tryz.f138 = true := by kernel_rfl
theorem okS139 : smallF Tryz.f139 = true := by kernel_rfl
theorem okS140 : smallF Tryz.f140 = true := by kernel_rfl
theorem okS141 : smallF Tryz.f141 = true := by kernel_rfl
theorem okS142 : smallF Tryz.f142 = true := by kernel_rfl
theorem okS143 : smallF Tryz.f143 = true := by kernel_rfl
theorem okS144 : smallF Tryz.f144 = true := by kernel_rfl
theorem okS145 : smallF Tryz.f145 = true := by kernel_rfl
theorem okS168 : smallF Tryz.f168 = true := by kernel_rfl
theorem okF : ∀ x ∈ listF, Tryz.prog.funcs[x.1]? = some x.2 ∧ smallF x.2 = true := by
  intro x hx
  simp only [listF, List.mem_cons, List.not_mem_nil, or_false] at hx
  rcases hx with rfl | rfl | rfl | rfl | rfl | rfl | rfl | rfl | rfl | rfl | rfl | rfl | rfl | rfl | rfl | rfl | rfl | rfl | rfl | rfl | rfl | rfl | rfl | rfl | rfl | rfl | rfl | rfl | rfl | rfl | rfl | rfl | rfl | rfl | rfl | rfl | rfl | rfl | rfl | rfl | rfl | rfl | rfl | rfl | rfl | rfl | rfl | rfl | rfl | rfl | rfl | rfl | rfl | rfl | rfl | rfl | rfl | rfl | rfl | rfl | rfl | rfl | rfl | rfl | rfl | rfl | rfl | rfl | rfl | rfl | rfl | rfl | rfl | rfl | rfl | rfl | rfl | rfl | rfl | rfl | rfl | rfl | rfl | rfl | rfl | rfl | rfl | rfl | rfl | rfl | rfl | rfl | rfl | rfl | rfl | rfl | rfl | rfl | rfl | rfl | rfl | rfl | rfl | rfl | rfl | rfl | rfl | rfl | rfl | rfl | rfl | rfl | rfl | rfl | rfl | rfl | rfl | rfl | rfl | rfl | rfl | rfl | rfl | rfl | rfl | rfl | rfl | rfl | rfl | rfl | rfl | rfl | rfl | rfl | rfl | rfl | rfl | rfl | rfl | rfl
  · exact ⟨Tryz.func2, okS2⟩
  · exact ⟨Tryz.func3, okS3⟩
  · exact ⟨Tryz.func4, okS4⟩
  · exact ⟨Tryz.func5, okS5⟩
  · exact ⟨Tryz.func6, okS6⟩
  · exact ⟨Tryz.func7, okS7⟩
  · exact ⟨Tryz.func8, okS8⟩
  · exact ⟨Tryz.func9, okS9⟩
  · exact ⟨Tryz.func10, okS10⟩
  · exact ⟨Tryz.func11, okS11⟩
  · exact ⟨Tryz.func12, okS12⟩
  · exact ⟨Tryz.func13, okS13⟩
  · exact ⟨Tryz.func14, okS14⟩
  · exact ⟨Tryz.func15, okS15⟩
  · exact ⟨Tryz.func16, okS16⟩
  · exact ⟨Tryz.func17, okS17⟩
  · exact ⟨Tryz.func18, okS18⟩
  · exact ⟨Tryz.func19, okS19⟩
  · exact ⟨Tryz.func20, okS20⟩
  · exact ⟨Tryz.func21, okS21⟩
  · exact ⟨Tryz.func22, okS22⟩
  · exact ⟨Tryz.func23, okS23⟩
  · exact ⟨Tryz.func24, okS24⟩
  · exact ⟨Tryz.func25, okS25⟩
  · exact ⟨Tryz.func26, okS26⟩
  · exact ⟨Tryz.func27, okS27⟩
  · exact ⟨Tryz.func28, okS28⟩
  · exact ⟨Tryz.func29, okS29⟩
  · exact ⟨Tryz.func30, okS30⟩
  · exact ⟨Tryz.func31, okS31⟩
  · exact ⟨Tryz.func32, okS32⟩
  · exact ⟨Tryz.func33, okS33⟩
  · exact ⟨Tryz.func34, okS34⟩
  · exact ⟨Tryz.func35, okS35⟩
  · exact ⟨Tryz.func36, okS36⟩
  · exact ⟨Tryz.func37, okS37⟩
  · exact ⟨Tryz.func38, okS38⟩
  · exact ⟨Tryz.func39, okS39⟩
  · exact ⟨Tryz.func40, okS40⟩
  · exact ⟨Tryz.func41, okS41⟩
  · exact ⟨Tryz.func42, okS42⟩
  · exact ⟨Tryz.func43, okS43⟩
  · exact ⟨Tryz.func44, okS44⟩
  · exact ⟨Tryz.func45, okS45⟩
  · exact ⟨Tryz.func46, okS46⟩
  · exact ⟨Tryz.func47, okS47⟩
  · exact ⟨Tryz.func48, okS48⟩
  · exact ⟨Tryz.func49, okS49⟩
  · exact ⟨Tryz.func50, okS50⟩
  · exact ⟨Tryz.func51, okS51⟩
  · exact ⟨Tryz.func52, okS52⟩
  · exact ⟨Tryz.func53, okS53⟩
  · exact ⟨Tryz.func54, okS54⟩
  · exact ⟨Tryz.func55, okS55⟩
  · exact ⟨Tryz.func56, okS56⟩
  · exact ⟨Tryz.func57, okS57⟩
  · exact ⟨Tryz.func58, okS58⟩
  · exact ⟨Tryz.func59, okS59⟩
  · exact ⟨Tryz.func60, okS60⟩
  · exact ⟨Tryz.func61, okS61⟩
  · exact ⟨Tryz.func62, okS62⟩
  · exact ⟨Tryz.func63, okS63⟩
  · exact ⟨Tryz.func64, okS64⟩
  · exact ⟨Tryz.func65, okS65⟩
  · exact ⟨Tryz.func66, okS66⟩
  · exact ⟨Tryz.func67, okS67⟩
  · exact ⟨Tryz.func68, okS68⟩
  · exact ⟨Tryz.func69, okS69⟩
  · exact ⟨Tryz.func70, okS70⟩
  · exact ⟨Tryz.func71, okS71⟩
  · exact ⟨Tryz.func72, okS72⟩
  · exact ⟨Tryz.func73, okS73⟩
  · exact ⟨Tryz.func74, okS74⟩
  · exact ⟨Tryz.func75, okS75⟩
  · exact ⟨Tryz.func76, okS76⟩
  · exact ⟨Tryz.func77, okS77⟩
  · exact ⟨Tryz.func78, okS78⟩
  · exact ⟨Tryz.func79, okS79⟩
  · exact ⟨Tryz.func80, okS80⟩
  · exact ⟨Tryz.func81, okS81⟩
  · exact ⟨Tryz.func82, okS82⟩
  · exact ⟨Tryz.func83, okS83⟩
  · exact ⟨Tryz.func84, okS84⟩
  · exact ⟨Tryz.func85, okS85⟩
  · exact ⟨Tryz.func86, okS86⟩
  · exact ⟨Tryz.func87, okS87⟩
  · exact ⟨Tryz.func88, okS88⟩
  · exact ⟨Tryz.func89, okS89⟩
  · exact ⟨Tryz.func90, okS90⟩
  · exact ⟨Tryz.func91, okS91⟩
  · exact ⟨Tryz.func92, okS92⟩
  · exact ⟨Tryz.func93, okS93⟩
  · exact ⟨Tryz.func94, okS94⟩
  · exact ⟨Tryz.func95, okS95⟩
  · exact ⟨Tryz.func96, okS96⟩
  · exact ⟨Tryz.func97, okS97⟩
  · exact ⟨Tryz.func98, okS98⟩
  · exact ⟨Tryz.func99, okS99⟩
  · exact ⟨Tryz.func100, okS100⟩
  · exact ⟨Tryz.func101, okS101⟩
  · exact ⟨Tryz.func102, okS102⟩
  · exact ⟨Tryz.func103, okS103⟩
  · exact ⟨Tryz.func104, okS104⟩
  · exact ⟨Tryz.func105, okS105⟩
  · exact ⟨Tryz.func106, okS106⟩
  · exact ⟨Tryz.func107, okS107⟩
  · exact ⟨Tryz.func108, okS108⟩
  · exact ⟨Tryz.func109, okS109⟩
  · exact ⟨Tryz.func110, okS110⟩
  · exact ⟨Tryz.func111, okS111⟩
  · exact ⟨Tryz.func112, okS112⟩
  · exact ⟨Tryz.func113, okS113⟩
  · exact ⟨Tryz.func114, okS114⟩
  · exact ⟨Tryz.func115, okS115⟩
  · exact ⟨Tryz.func116, okS116⟩
  · exact ⟨Tryz.func117, okS117⟩
  · exact ⟨Tryz.func118, okS118⟩
  · exact ⟨Tryz.func119, okS119⟩
  · exact ⟨Tryz.func121, okS121⟩
  · exact ⟨Tryz.func124, okS124⟩
  · exact ⟨Tryz.func125, okS125⟩
  · exact ⟨Tryz.func126, okS126⟩
  · exact ⟨Tryz.func127, okS127⟩
  · exact ⟨Tryz.func128, okS128⟩
  · exact ⟨Tryz.func130, okS130⟩
  · exact ⟨Tryz.func131, okS131⟩
  · exact ⟨Tryz.func132, okS132⟩
  · exact ⟨Tryz.func133, okS133⟩
  · exact ⟨Tryz.func134, okS134⟩
  · exact ⟨Tryz.func135, okS135⟩
  · exact ⟨Tryz.func136, okS136⟩
  · exact ⟨Tryz.func138, okS138⟩
  · exact ⟨Tryz.func139, okS139⟩
  · exact ⟨Tryz.func140, okS140⟩
  · exact ⟨Tryz.func141, okS141⟩
  · exact ⟨Tryz.func142, okS142⟩
  · exact ⟨Tryz.func143, okS143⟩
  · exact ⟨Tryz.func144, okS144⟩
  · exact ⟨Tryz.func145, okS145⟩
  · exact ⟨Tryz.func168, okS168⟩
theorem trieT_ok : ∀ t ti, trieT.get t = some ti → tiOf Tryz.prog t = some ti := PT.all (Q := fun t ti => tiOf Tryz.prog t = some ti) listT okT trieT_eq
theorem trieF_ok : ∀ i fn, trieF.get i = some fn → Tryz.prog.funcs[i]? = some fn ∧ smallF fn = true := PT.all (Q := fun i fn => Tryz.prog.funcs[i]? = some fn ∧ smallF fn = true) listF okF trieF_eq
theorem smallF_ok {fn : Func} {c : Code} (h : smallF fn = true) (hb : fn.body = some c) : smallC fn.ntmps c = true := by
  unfold smallF at h
  rw [hb] at h
  exact h
theorem mixed_ok : Tryz.prog.follows .mixedOrders = true := by kernel_rfl
theorem Ctx_ok (X : Ctx) (h1 : X.T = trieT.get) (h2 : X.P = Tryz.prog) (h3 : X.F = trieF.get) (hp : ∀ i p, X.prim i = some p → GoodAt X i p) : X.Ok := by
  constructor
  · rw [h1, h2]; exact trieT_ok
  · rw [h3, h2]; exact fun i fn h => (trieF_ok i fn h).1
  · rw [h3]; exact fun i fn c h hb => smallF_ok (trieF_ok i fn h).2 hb
  · exact hp
  · rw [h2]; exact mixed_ok
theorem X0_ok (glob : Nat → Option (List AV)) (prim : Nat → Option (List AV → Heap → Out (AV × Heap))) (hp : ∀ i p, prim i = some p → GoodAt (X0 glob prim) i p) : (X0 glob prim).Ok := Ctx_ok (X0 glob prim) rfl rfl rfl hp
end Go.Proofs.YtnhblghplohonaaGreatDoor.Ab
