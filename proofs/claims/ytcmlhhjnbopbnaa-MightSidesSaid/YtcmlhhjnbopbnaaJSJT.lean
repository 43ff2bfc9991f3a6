/- The types of the seat, a row each, held against the loaded program. Printed by our gen/gent.py. -/
import Derived.Test.YtcmlhhjnbopbnaaProg
import Derived.Test.YtcmlhhjnbopbnaaJoJ21
import Derived.Test.YtcmlhhjnbopbnaaJoJ27
import Derived.KernelRfl
namespace Go.Jo.S

set_option autoImplicit false
def ti3 : TI := ⟨(.int .i64), 1, 8, false, [.int .i64 0], [], 0, false⟩
def ti4 : TI := ⟨.bool, 1, 1, false, [.bool false], [], 0, false⟩
def ti5 : TI := ⟨(.int .u8), 1, 1, false, [.int .u8 0], [], 0, false⟩
def ti8 : TI := ⟨.struct, 4, 24, true, [.int .i64 0, .int .i64 0, .bool false, .int .u8 0], [(0, 1, false, true), (1, 1, false, true), (2, 1, false, true), (3, 1, false, true)], 0, false⟩
def ti9 : TI := ⟨.string, 1, 16, false, [.string ⟨#[]⟩], [], 0, false⟩
def ti10 : TI := ⟨.string, 1, 16, false, [.string ⟨#[]⟩], [], 0, false⟩
def ti11 : TI := ⟨.string, 1, 16, false, [.string ⟨#[]⟩], [], 0, false⟩
def ti14 : TI := ⟨.struct, 2, 24, true, [.string ⟨#[]⟩, .int .u64 0], [(0, 1, false, true), (1, 1, false, true)], 0, false⟩
def ti15 : TI := ⟨.other, 1, 8, false, [.pointer none], [], 0, false⟩
def ti16 : TI := ⟨.other, 1, 8, false, [.pointer none], [], 0, false⟩
def ti17 : TI := ⟨.other, 1, 8, false, [.pointer none], [], 0, false⟩
def ti19 : TI := ⟨.struct, 1, 8, true, [.pointer none], [(0, 1, false, false)], 0, false⟩
def ti22 : TI := ⟨(.slice 106), 1, 24, false, [.slice none 0 0], [], 6, true⟩
def ti23 : TI := ⟨(.slice 35), 1, 24, false, [.slice none 0 0], [], 14, true⟩
def ti24 : TI := ⟨(.array 2 3), 2, 16, true, [.int .i64 0, .int .i64 0], [], 1, false⟩
def ti25 : TI := ⟨(.slice 58), 1, 24, false, [.slice none 0 0], [], 4, true⟩
def ti26 : TI := ⟨(.array 2 4), 2, 2, true, [.bool false, .bool false], [], 1, false⟩
def ti28 : TI := ⟨.struct, 10, 120, true, [.slice none 0 0, .slice none 0 0, .int .i64 0, .int .i64 0, .int .i64 0, .int .u8 0, .int .i64 0, .slice none 0 0, .bool false, .bool false], [(0, 1, false, false), (1, 1, false, false), (2, 2, true, false), (4, 1, false, true), (5, 1, false, true), (6, 1, false, true), (7, 1, false, false), (8, 2, true, false)], 0, false⟩
def ti30 : TI := ⟨.other, 1, 8, false, [.nilFunc], [], 0, false⟩
def ti33 : TI := ⟨.struct, 3, 3, true, [.int .u8 0, .int .u8 0, .int .u8 0], [(0, 1, false, true), (1, 1, false, true), (2, 1, false, true)], 0, false⟩
def ti35 : TI := ⟨.struct, 14, 72, true, [.int .i64 0, .int .i64 0, .int .i64 0, .int .u8 0, .int .u8 0, .int .u8 0, .int .i64 0, .bool false, .bool false, .int .i64 0, .int .u8 0, .bool false, .bool false, .int .i64 0], [(0, 1, false, true), (1, 1, false, true), (2, 1, false, true), (3, 1, false, true), (4, 1, false, true), (5, 1, false, true), (6, 1, false, true), (7, 1, false, true), (8, 1, false, true), (9, 1, false, true), (10, 1, false, true), (11, 1, false, true), (12, 1, false, true), (13, 1, false, true)], 0, false⟩
def ti41 : TI := ⟨(.slice 3), 1, 24, false, [.slice none 0 0], [], 1, false⟩
def ti42 : TI := ⟨(.int .i64), 1, 8, false, [.int .i64 0], [], 0, false⟩
def ti45 : TI := ⟨(.slice 50), 1, 24, false, [.slice none 0 0], [], 3, true⟩
def ti50 : TI := ⟨.struct, 3, 24, true, [.int .u8 0, .int .i64 0, .int .i64 0], [(0, 1, false, true), (1, 1, false, true), (2, 1, false, true)], 0, false⟩
def ti58 : TI := ⟨.struct, 4, 32, true, [.int .u8 0, .int .i64 0, .int .i64 0, .int .u8 0], [(0, 1, false, true), (1, 1, false, true), (2, 1, false, true), (3, 1, false, true)], 0, false⟩
def ti60 : TI := ⟨(.slice 62), 1, 24, false, [.slice none 0 0], [], 7, true⟩
def ti62 : TI := ⟨.struct, 7, 48, true, [.int .u8 0, .int .i64 0, .int .u8 0, .int .u8 0, .int .u8 0, .int .u8 0, .slice none 0 0], [(0, 1, false, true), (1, 1, false, true), (2, 1, false, true), (3, 3, true, false), (6, 1, false, false)], 0, false⟩
def ti67 : TI := ⟨(.slice 24), 1, 24, false, [.slice none 0 0], [], 2, true⟩
def ti74 : TI := ⟨(.array 2 41), 2, 48, true, [.slice none 0 0, .slice none 0 0], [], 1, false⟩
def ti75 : TI := ⟨(.slice 78), 1, 24, false, [.slice none 0 0], [], 6, true⟩
def ti78 : TI := ⟨.struct, 6, 24, true, [.int .u8 0, .int .i64 0, .int .u8 0, .int .u8 0, .bool false, .bool false], [(0, 1, false, true), (1, 1, false, true), (2, 1, false, true), (3, 1, false, true), (4, 1, false, true), (5, 1, false, true)], 0, false⟩
def ti82 : TI := ⟨(.slice 85), 1, 24, false, [.slice none 0 0], [], 4, true⟩
def ti85 : TI := ⟨.struct, 4, 32, true, [.int .u8 0, .int .i64 0, .int .i64 0, .bool false], [(0, 1, false, true), (1, 1, false, true), (2, 1, false, true), (3, 1, false, true)], 0, false⟩
def ti86 : TI := ⟨(.slice 116), 1, 24, false, [.slice none 0 0], [], 13, true⟩
def ti88 : TI := ⟨.struct, 12, 96, true, [.int .u8 0, .int .u8 0, .int .u8 0, .slice none 0 0, .int .i64 0, .int .i64 0, .bool false, .int .i64 0, .int .u8 0, .int .u8 0, .int .u8 0, .slice none 0 0], [(0, 1, false, true), (1, 1, false, true), (2, 1, false, true), (3, 1, false, false), (4, 1, false, true), (5, 1, false, true), (6, 1, false, true), (7, 1, false, true), (8, 3, true, false), (11, 1, false, false)], 0, false⟩
def ti95 : TI := ⟨(.slice 102), 1, 24, false, [.slice none 0 0], [], 6, true⟩
def ti97 : TI := ⟨.struct, 4, 56, true, [.bool false, .bool false, .slice none 0 0, .slice none 0 0], [(0, 1, false, true), (1, 1, false, true), (2, 1, false, false), (3, 1, false, false)], 0, false⟩
def ti102 : TI := ⟨.struct, 6, 56, true, [.int .u8 0, .int .i64 0, .int .i64 0, .slice none 0 0, .int .u8 0, .bool false], [(0, 1, false, true), (1, 1, false, true), (2, 1, false, true), (3, 1, false, false), (4, 1, false, true), (5, 1, false, true)], 0, false⟩
def ti104 : TI := ⟨(.slice 88), 1, 24, false, [.slice none 0 0], [], 12, true⟩
def ti106 : TI := ⟨.struct, 6, 72, true, [.string ⟨#[]⟩, .int .u8 0, .int .i64 0, .int .i64 0, .int .i64 0, .slice none 0 0], [(0, 1, false, true), (1, 1, false, true), (2, 1, false, true), (3, 1, false, true), (4, 1, false, true), (5, 1, false, false)], 0, false⟩
def ti116 : TI := ⟨.struct, 13, 64, true, [.int .u8 0, .int .u8 0, .int .u8 0, .int .i64 0, .int .u8 0, .int .u8 0, .int .u8 0, .int .u8 0, .slice none 0 0, .bool false, .int .u8 0, .int .u8 0, .int .u8 0], [(0, 1, false, true), (1, 1, false, true), (2, 7, true, false), (9, 1, false, true), (10, 3, true, false)], 0, false⟩
def ti123 : TI := ⟨.other, 1, 8, false, [.nilFunc], [], 0, false⟩
def ti124 : TI := ⟨.other, 1, 8, false, [.nilFunc], [], 0, false⟩
def ti130 : TI := ⟨.other, 1, 8, false, [.pointer none], [], 0, false⟩
def ti132 : TI := ⟨.struct, 13, 144, true, [.slice none 0 0, .slice none 0 0, .int .i64 0, .int .i64 0, .int .i64 0, .int .u8 0, .int .i64 0, .slice none 0 0, .bool false, .bool false, .int .u8 0, .int .i64 0, .bool false], [(0, 10, true, false), (10, 1, false, true), (11, 1, false, true), (12, 1, false, true)], 0, false⟩
def ti136 : TI := ⟨.other, 1, 8, false, [.nilFunc], [], 0, false⟩
def ti138 : TI := ⟨.other, 1, 8, false, [.nilFunc], [], 0, false⟩
def ti139 : TI := ⟨(.map 141 3), 1, 8, false, [.map none], [], 0, false⟩
def ti141 : TI := ⟨.struct, 3, 16, true, [.int .u8 0, .int .u8 0, .int .i64 0], [(0, 1, false, true), (1, 1, false, true), (2, 1, false, true)], 0, false⟩
def ti144 : TI := ⟨.other, 1, 8, false, [.nilFunc], [], 0, false⟩
def ti151 : TI := ⟨.struct, 2, 2, true, [.bool false, .bool false], [(0, 1, false, true), (1, 1, false, true)], 0, false⟩
def ti154 : TI := ⟨.other, 1, 8, false, [.nilFunc], [], 0, false⟩
def ti157 : TI := ⟨.struct, 43, 368, true, [.slice none 0 0, .slice none 0 0, .int .i64 0, .int .i64 0, .int .i64 0, .int .u8 0, .int .i64 0, .slice none 0 0, .bool false, .bool false, .int .u8 0, .int .i64 0, .int .i64 0, .int .i64 0, .int .i64 0, .int .i64 0, .int .u8 0, .int .u8 0, .int .u8 0, .int .i64 0, .bool false, .bool false, .int .i64 0, .int .u8 0, .bool false, .bool false, .int .i64 0, .int .u8 0, .int .u8 0, .int .u8 0, .slice none 0 0, .int .i64 0, .int .i64 0, .bool false, .int .i64 0, .int .u8 0, .int .u8 0, .int .u8 0, .slice none 0 0, .bool false, .bool false, .slice none 0 0, .slice none 0 0], [(0, 10, true, false), (10, 1, false, true), (11, 1, false, true), (12, 1, false, true), (13, 14, true, false), (27, 12, true, false), (39, 4, true, false)], 0, false⟩
def ti161 : TI := ⟨(.slice 5), 1, 24, false, [.slice none 0 0], [], 1, false⟩
def ti163 : TI := ⟨.other, 1, 8, false, [.nilFunc], [], 0, false⟩
def ti169 : TI := ⟨.other, 1, 8, false, [.nilFunc], [], 0, false⟩
def ti172 : TI := ⟨(.slice 41), 1, 24, false, [.slice none 0 0], [], 1, false⟩
def ti178 : TI := ⟨.other, 1, 8, false, [.nilFunc], [], 0, false⟩
def ti179 : TI := ⟨.other, 1, 8, false, [.nilFunc], [], 0, false⟩
def ti181 : TI := ⟨.other, 1, 8, false, [.nilFunc], [], 0, false⟩
def ti182 : TI := ⟨(.map 151 82), 1, 8, false, [.map none], [], 0, false⟩
def ti184 : TI := ⟨.other, 1, 8, false, [.nilFunc], [], 0, false⟩
def ti186 : TI := ⟨(.map 151 3), 1, 8, false, [.map none], [], 0, false⟩
def ti188 : TI := ⟨(.int .u64), 1, 8, false, [.int .u64 0], [], 0, false⟩
def ti190 : TI := ⟨(.array 5 5), 5, 5, true, [.int .u8 0, .int .u8 0, .int .u8 0, .int .u8 0, .int .u8 0], [], 1, false⟩
def ti194 : TI := ⟨.other, 1, 8, false, [.nilFunc], [], 0, false⟩
def ti196 : TI := ⟨.other, 1, 8, false, [.nilFunc], [], 0, false⟩
def ti198 : TI := ⟨.other, 1, 8, false, [.nilFunc], [], 0, false⟩
def ti199 : TI := ⟨.other, 1, 8, false, [.nilFunc], [], 0, false⟩
def ti205 : TI := ⟨(.slice 30), 1, 24, false, [.slice none 0 0], [], 1, false⟩
def ti208 : TI := ⟨(.array 4 30), 4, 32, true, [.nilFunc, .nilFunc, .nilFunc, .nilFunc], [], 1, false⟩
def ti220 : TI := ⟨(.int .u8), 1, 1, false, [.int .u8 0], [], 0, false⟩
def T (t : Nat) : Option TI := if t < 95 then (if t < 30 then (if t < 16 then (if t < 9 then (if t < 5 then (if t < 4 then (if t = 3 then some ti3 else none) else (if t = 4 then some ti4 else none)) else (if t < 8 then (if t = 5 then some ti5 else none) else (if t = 8 then some ti8 else none))) else (if t < 11 then (if t < 10 then (if t = 9 then some ti9 else none) else (if t = 10 then some ti10 else none)) else (if t < 14 then (if t = 11 then some ti11 else none) else (if t < 15 then (if t = 14 then some ti14 else none) else (if t = 15 then some ti15 else none))))) else (if t < 23 then (if t < 19 then (if t < 17 then (if t = 16 then some ti16 else none) else (if t = 17 then some ti17 else none)) else (if t < 22 then (if t = 19 then some ti19 else none) else (if t = 22 then some ti22 else none))) else (if t < 25 then (if t < 24 then (if t = 23 then some ti23 else none) else (if t = 24 then some ti24 else none)) else (if t < 26 then (if t = 25 then some ti25 else none) else (if t < 28 then (if t = 26 then some ti26 else none) else (if t = 28 then some ti28 else none)))))) else (if t < 62 then (if t < 42 then (if t < 35 then (if t < 33 then (if t = 30 then some ti30 else none) else (if t = 33 then some ti33 else none)) else (if t < 41 then (if t = 35 then some ti35 else none) else (if t = 41 then some ti41 else none))) else (if t < 50 then (if t < 45 then (if t = 42 then some ti42 else none) else (if t = 45 then some ti45 else none)) else (if t < 58 then (if t = 50 then some ti50 else none) else (if t < 60 then (if t = 58 then some ti58 else none) else (if t = 60 then some ti60 else none))))) else (if t < 78 then (if t < 74 then (if t < 67 then (if t = 62 then some ti62 else none) else (if t = 67 then some ti67 else none)) else (if t < 75 then (if t = 74 then some ti74 else none) else (if t = 75 then some ti75 else none))) else (if t < 85 then (if t < 82 then (if t = 78 then some ti78 else none) else (if t = 82 then some ti82 else none)) else (if t < 86 then (if t = 85 then some ti85 else none) else (if t < 88 then (if t = 86 then some ti86 else none) else (if t = 88 then some ti88 else none))))))) else (if t < 161 then (if t < 132 then (if t < 106 then (if t < 102 then (if t < 97 then (if t = 95 then some ti95 else none) else (if t = 97 then some ti97 else none)) else (if t < 104 then (if t = 102 then some ti102 else none) else (if t = 104 then some ti104 else none))) else (if t < 123 then (if t < 116 then (if t = 106 then some ti106 else none) else (if t = 116 then some ti116 else none)) else (if t < 124 then (if t = 123 then some ti123 else none) else (if t < 130 then (if t = 124 then some ti124 else none) else (if t = 130 then some ti130 else none))))) else (if t < 141 then (if t < 138 then (if t < 136 then (if t = 132 then some ti132 else none) else (if t = 136 then some ti136 else none)) else (if t < 139 then (if t = 138 then some ti138 else none) else (if t = 139 then some ti139 else none))) else (if t < 151 then (if t < 144 then (if t = 141 then some ti141 else none) else (if t = 144 then some ti144 else none)) else (if t < 154 then (if t = 151 then some ti151 else none) else (if t < 157 then (if t = 154 then some ti154 else none) else (if t = 157 then some ti157 else none)))))) else (if t < 186 then (if t < 178 then (if t < 169 then (if t < 163 then (if t = 161 then some ti161 else none) else (if t = 163 then some ti163 else none)) else (if t < 172 then (if t = 169 then some ti169 else none) else (if t = 172 then some ti172 else none))) else (if t < 181 then (if t < 179 then (if t = 178 then some ti178 else none) else (if t = 179 then some ti179 else none)) else (if t < 182 then (if t = 181 then some ti181 else none) else (if t < 184 then (if t = 182 then some ti182 else none) else (if t = 184 then some ti184 else none))))) else (if t < 198 then (if t < 190 then (if t < 188 then (if t = 186 then some ti186 else none) else (if t = 188 then some ti188 else none)) else (if t < 194 then (if t = 190 then some ti190 else none) else (if t < 196 then (if t = 194 then some ti194 else none) else (if t = 196 then some ti196 else none)))) else (if t < 205 then (if t < 199 then (if t = 198 then some ti198 else none) else (if t = 199 then some ti199 else none)) else (if t < 208 then (if t = 205 then some ti205 else none) else (if t < 220 then (if t = 208 then some ti208 else none) else (if t = 220 then some ti220 else none)))))))
theorem T_3 : T 3 = some ti3 := rfl
theorem T_4 : T 4 = some ti4 := rfl
theorem T_5 : T 5 = some ti5 := rfl
theorem T_8 : T 8 = some ti8 := rfl
theorem T_9 : T 9 = some ti9 := rfl
theorem T_10 : T 10 = some ti10 := rfl
theorem T_11 : T 11 = some ti11 := rfl
theorem T_14 : T 14 = some ti14 := rfl
theorem T_15 : T 15 = some ti15 := rfl
theorem T_16 : T 16 = some ti16 := rfl
theorem T_17 : T 17 = some ti17 := rfl
theorem T_19 : T 19 = some ti19 := rfl
theorem T_22 : T 22 = some ti22 := rfl
theorem T_23 : T 23 = some ti23 := rfl
theorem T_24 : T 24 = some ti24 := rfl
theorem T_25 : T 25 = some ti25 := rfl
theorem T_26 : T 26 = some ti26 := rfl
theorem T_28 : T 28 = some ti28 := rfl
theorem T_30 : T 30 = some ti30 := rfl
theorem T_33 : T 33 = some ti33 := rfl
theorem T_35 : T 35 = some ti35 := rfl
theorem T_41 : T 41 = some ti41 := rfl
theorem T_42 : T 42 = some ti42 := rfl
theorem T_45 : T 45 = some ti45 := rfl
theorem T_50 : T 50 = some ti50 := rfl
theorem T_58 : T 58 = some ti58 := rfl
theorem T_60 : T 60 = some ti60 := rfl
theorem T_62 : T 62 = some ti62 := rfl
theorem T_67 : T 67 = some ti67 := rfl
theorem T_74 : T 74 = some ti74 := rfl
theorem T_75 : T 75 = some ti75 := rfl
theorem T_78 : T 78 = some ti78 := rfl
theorem T_82 : T 82 = some ti82 := rfl
theorem T_85 : T 85 = some ti85 := rfl
theorem T_86 : T 86 = some ti86 := rfl
theorem T_88 : T 88 = some ti88 := rfl
theorem T_95 : T 95 = some ti95 := rfl
theorem T_97 : T 97 = some ti97 := rfl
theorem T_102 : T 102 = some ti102 := rfl
theorem T_104 : T 104 = some ti104 := rfl
theorem T_106 : T 106 = some ti106 := rfl
theorem T_116 : T 116 = some ti116 := rfl
theorem T_123 : T 123 = some ti123 := rfl
theorem T_124 : T 124 = some ti124 := rfl
theorem T_130 : T 130 = some ti130 := rfl
theorem T_132 : T 132 = some ti132 := rfl
theorem T_136 : T 136 = some ti136 := rfl
theorem T_138 : T 138 = some ti138 := rfl
theorem T_139 : T 139 = some ti139 := rfl
theorem T_141 : T 141 = some ti141 := rfl
theorem T_144 : T 144 = some ti144 := rfl
theorem T_151 : T 151 = some ti151 := rfl
theorem T_154 : T 154 = some ti154 := rfl
theorem T_157 : T 157 = some ti157 := rfl
theorem T_161 : T 161 = some ti161 := rfl
theorem T_163 : T 163 = some ti163 := rfl
theorem T_169 : T 169 = some ti169 := rfl
theorem T_172 : T 172 = some ti172 := rfl
theorem T_178 : T 178 = some ti178 := rfl
theorem T_179 : T 179 = some ti179 := rfl
theorem T_181 : T 181 = some ti181 := rfl
theorem T_182 : T 182 = some ti182 := rfl
theorem T_184 : T 184 = some ti184 := rfl
theorem T_186 : T 186 = some ti186 := rfl
theorem T_188 : T 188 = some ti188 := rfl
theorem T_190 : T 190 = some ti190 := rfl
theorem T_194 : T 194 = some ti194 := rfl
theorem T_196 : T 196 = some ti196 := rfl
theorem T_198 : T 198 = some ti198 := rfl
theorem T_199 : T 199 = some ti199 := rfl
theorem T_205 : T 205 = some ti205 := rfl
theorem T_208 : T 208 = some ti208 := rfl
theorem T_220 : T 220 = some ti220 := rfl
theorem ok_3 : tiOf Go.Proofs.Try.prog 3 = some ti3 := by kernel_rfl
theorem ok_4 : tiOf Go.Proofs.Try.prog 4 = some ti4 := by kernel_rfl
theorem ok_5 : tiOf Go.Proofs.Try.prog 5 = some ti5 := by kernel_rfl
theorem ok_8 : tiOf Go.Proofs.Try.prog 8 = some ti8 := by kernel_rfl
theorem ok_9 : tiOf Go.Proofs.Try.prog 9 = some ti9 := by kernel_rfl
theorem ok_10 : tiOf Go.Proofs.Try.prog 10 = some ti10 := by kernel_rfl
theorem ok_11 : tiOf Go.Proofs.Try.prog 11 = some ti11 := by kernel_rfl
theorem ok_14 : tiOf Go.Proofs.Try.prog 14 = some ti14 := by kernel_rfl
theorem ok_15 : tiOf Go.Proofs.Try.prog 15 = some ti15 := by kernel_rfl
theorem ok_16 : tiOf Go.Proofs.Try.prog 16 = some ti16 := by kernel_rfl
theorem ok_17 : tiOf Go.Proofs.Try.prog 17 = some ti17 := by kernel_rfl
theorem ok_19 : tiOf Go.Proofs.Try.prog 19 = some ti19 := by kernel_rfl
theorem ok_22 : tiOf Go.Proofs.Try.prog 22 = some ti22 := by kernel_rfl
theorem ok_23 : tiOf Go.Proofs.Try.prog 23 = some ti23 := by kernel_rfl
theorem ok_24 : tiOf Go.Proofs.Try.prog 24 = some ti24 := by kernel_rfl
theorem ok_25 : tiOf Go.Proofs.Try.prog 25 = some ti25 := by kernel_rfl
theorem ok_26 : tiOf Go.Proofs.Try.prog 26 = some ti26 := by kernel_rfl
theorem ok_28 : tiOf Go.Proofs.Try.prog 28 = some ti28 := by kernel_rfl
theorem ok_30 : tiOf Go.Proofs.Try.prog 30 = some ti30 := by kernel_rfl
theorem ok_33 : tiOf Go.Proofs.Try.prog 33 = some ti33 := by kernel_rfl
theorem ok_35 : tiOf Go.Proofs.Try.prog 35 = some ti35 := by kernel_rfl
theorem ok_41 : tiOf Go.Proofs.Try.prog 41 = some ti41 := by kernel_rfl
theorem ok_42 : tiOf Go.Proofs.Try.prog 42 = some ti42 := by kernel_rfl
theorem ok_45 : tiOf Go.Proofs.Try.prog 45 = some ti45 := by kernel_rfl
theorem ok_50 : tiOf Go.Proofs.Try.prog 50 = some ti50 := by kernel_rfl
theorem ok_58 : tiOf Go.Proofs.Try.prog 58 = some ti58 := by kernel_rfl
theorem ok_60 : tiOf Go.Proofs.Try.prog 60 = some ti60 := by kernel_rfl
theorem ok_62 : tiOf Go.Proofs.Try.prog 62 = some ti62 := by kernel_rfl
theorem ok_67 : tiOf Go.Proofs.Try.prog 67 = some ti67 := by kernel_rfl
theorem ok_74 : tiOf Go.Proofs.Try.prog 74 = some ti74 := by kernel_rfl
theorem ok_75 : tiOf Go.Proofs.Try.prog 75 = some ti75 := by kernel_rfl
theorem ok_78 : tiOf Go.Proofs.Try.prog 78 = some ti78 := by kernel_rfl
theorem ok_82 : tiOf Go.Proofs.Try.prog 82 = some ti82 := by kernel_rfl
theorem ok_85 : tiOf Go.Proofs.Try.prog 85 = some ti85 := by kernel_rfl
theorem ok_86 : tiOf Go.Proofs.Try.prog 86 = some ti86 := by kernel_rfl
theorem ok_88 : tiOf Go.Proofs.Try.prog 88 = some ti88 := by kernel_rfl
theorem ok_95 : tiOf Go.Proofs.Try.prog 95 = some ti95 := by kernel_rfl
theorem ok_97 : tiOf Go.Proofs.Try.prog 97 = some ti97 := by kernel_rfl
theorem ok_102 : tiOf Go.Proofs.Try.prog 102 = some ti102 := by kernel_rfl
theorem ok_104 : tiOf Go.Proofs.Try.prog 104 = some ti104 := by kernel_rfl
theorem ok_106 : tiOf Go.Proofs.Try.prog 106 = some ti106 := by kernel_rfl
theorem ok_116 : tiOf Go.Proofs.Try.prog 116 = some ti116 := by kernel_rfl
theorem ok_123 : tiOf Go.Proofs.Try.prog 123 = some ti123 := by kernel_rfl
theorem ok_124 : tiOf Go.Proofs.Try.prog 124 = some ti124 := by kernel_rfl
theorem ok_130 : tiOf Go.Proofs.Try.prog 130 = some ti130 := by kernel_rfl
theorem ok_132 : tiOf Go.Proofs.Try.prog 132 = some ti132 := by kernel_rfl
theorem ok_136 : tiOf Go.Proofs.Try.prog 136 = some ti136 := by kernel_rfl
theorem ok_138 : tiOf Go.Proofs.Try.prog 138 = some ti138 := by kernel_rfl
theorem ok_139 : tiOf Go.Proofs.Try.prog 139 = some ti139 := by kernel_rfl
theorem ok_141 : tiOf Go.Proofs.Try.prog 141 = some ti141 := by kernel_rfl
theorem ok_144 : tiOf Go.Proofs.Try.prog 144 = some ti144 := by kernel_rfl
theorem ok_151 : tiOf Go.Proofs.Try.prog 151 = some ti151 := by kernel_rfl
theorem ok_154 : tiOf Go.Proofs.Try.prog 154 = some ti154 := by kernel_rfl
theorem ok_157 : tiOf Go.Proofs.Try.prog 157 = some ti157 := by kernel_rfl
theorem ok_161 : tiOf Go.Proofs.Try.prog 161 = some ti161 := by kernel_rfl
theorem ok_163 : tiOf Go.Proofs.Try.prog 163 = some ti163 := by kernel_rfl
theorem ok_169 : tiOf Go.Proofs.Try.prog 169 = some ti169 := by kernel_rfl
theorem ok_172 : tiOf Go.Proofs.Try.prog 172 = some ti172 := by kernel_rfl
theorem ok_178 : tiOf Go.Proofs.Try.prog 178 = some ti178 := by kernel_rfl
theorem ok_179 : tiOf Go.Proofs.Try.prog 179 = some ti179 := by kernel_rfl
theorem ok_181 : tiOf Go.Proofs.Try.prog 181 = some ti181 := by kernel_rfl
theorem ok_182 : tiOf Go.Proofs.Try.prog 182 = some ti182 := by kernel_rfl
theorem ok_184 : tiOf Go.Proofs.Try.prog 184 = some ti184 := by kernel_rfl
theorem ok_186 : tiOf Go.Proofs.Try.prog 186 = some ti186 := by kernel_rfl
theorem ok_188 : tiOf Go.Proofs.Try.prog 188 = some ti188 := by kernel_rfl
theorem ok_190 : tiOf Go.Proofs.Try.prog 190 = some ti190 := by kernel_rfl
theorem ok_194 : tiOf Go.Proofs.Try.prog 194 = some ti194 := by kernel_rfl
theorem ok_196 : tiOf Go.Proofs.Try.prog 196 = some ti196 := by kernel_rfl
theorem ok_198 : tiOf Go.Proofs.Try.prog 198 = some ti198 := by kernel_rfl
theorem ok_199 : tiOf Go.Proofs.Try.prog 199 = some ti199 := by kernel_rfl
theorem ok_205 : tiOf Go.Proofs.Try.prog 205 = some ti205 := by kernel_rfl
theorem ok_208 : tiOf Go.Proofs.Try.prog 208 = some ti208 := by kernel_rfl
theorem ok_220 : tiOf Go.Proofs.Try.prog 220 = some ti220 := by kernel_rfl
theorem iteE {c : Prop} [Decidable c] {A B : Option TI} {i : TI} {G : Prop} (h1 : A = some i → G) (h2 : B = some i → G) (h : (if c then A else B) = some i) : G := by
  by_cases hc : c
  · rw [if_pos hc] at h; exact h1 h
  · rw [if_neg hc] at h; exact h2 h
theorem leafE {P : Program} {k t : Nat} {x i : TI} (hk : tiOf P k = some x) (h : (if t = k then some x else none) = some i) : tiOf P t = some i := by
  by_cases hc : t = k
  · rw [if_pos hc] at h; cases h; rw [hc]; exact hk
  · rw [if_neg hc] at h; cases h
theorem T_ok : TOK Go.Proofs.Try.prog T := fun _ _ h => (iteE (iteE (iteE (iteE (iteE (iteE (leafE ok_3) (leafE ok_4)) (iteE (leafE ok_5) (leafE ok_8))) (iteE (iteE (leafE ok_9) (leafE ok_10)) (iteE (leafE ok_11) (iteE (leafE ok_14) (leafE ok_15))))) (iteE (iteE (iteE (leafE ok_16) (leafE ok_17)) (iteE (leafE ok_19) (leafE ok_22))) (iteE (iteE (leafE ok_23) (leafE ok_24)) (iteE (leafE ok_25) (iteE (leafE ok_26) (leafE ok_28)))))) (iteE (iteE (iteE (iteE (leafE ok_30) (leafE ok_33)) (iteE (leafE ok_35) (leafE ok_41))) (iteE (iteE (leafE ok_42) (leafE ok_45)) (iteE (leafE ok_50) (iteE (leafE ok_58) (leafE ok_60))))) (iteE (iteE (iteE (leafE ok_62) (leafE ok_67)) (iteE (leafE ok_74) (leafE ok_75))) (iteE (iteE (leafE ok_78) (leafE ok_82)) (iteE (leafE ok_85) (iteE (leafE ok_86) (leafE ok_88))))))) (iteE (iteE (iteE (iteE (iteE (leafE ok_95) (leafE ok_97)) (iteE (leafE ok_102) (leafE ok_104))) (iteE (iteE (leafE ok_106) (leafE ok_116)) (iteE (leafE ok_123) (iteE (leafE ok_124) (leafE ok_130))))) (iteE (iteE (iteE (leafE ok_132) (leafE ok_136)) (iteE (leafE ok_138) (leafE ok_139))) (iteE (iteE (leafE ok_141) (leafE ok_144)) (iteE (leafE ok_151) (iteE (leafE ok_154) (leafE ok_157)))))) (iteE (iteE (iteE (iteE (leafE ok_161) (leafE ok_163)) (iteE (leafE ok_169) (leafE ok_172))) (iteE (iteE (leafE ok_178) (leafE ok_179)) (iteE (leafE ok_181) (iteE (leafE ok_182) (leafE ok_184))))) (iteE (iteE (iteE (leafE ok_186) (leafE ok_188)) (iteE (leafE ok_190) (iteE (leafE ok_194) (leafE ok_196)))) (iteE (iteE (leafE ok_198) (leafE ok_199)) (iteE (leafE ok_205) (iteE (leafE ok_208) (leafE ok_220)))))))) h
theorem mixed : Go.Proofs.Try.prog.follows .mixedOrders = true := by kernel_rfl
def Ql : List (TypeId × List Value) := [(24, [.int .i64 0, .int .i64 0]), (26, [.bool false, .bool false]), (33, [.int .u8 0, .int .u8 0, .int .u8 0]), (35, [.int .i64 0, .int .i64 0, .int .i64 0, .int .u8 0, .int .u8 0, .int .u8 0, .int .i64 0, .bool false, .bool false, .int .i64 0, .int .u8 0, .bool false, .bool false, .int .i64 0]), (50, [.int .u8 0, .int .i64 0, .int .i64 0]), (58, [.int .u8 0, .int .i64 0, .int .i64 0, .int .u8 0]), (85, [.int .u8 0, .int .i64 0, .int .i64 0, .bool false]), (141, [.int .u8 0, .int .u8 0, .int .i64 0]), (151, [.bool false, .bool false])]
def cfg : Cfg := ⟨T, fun t => Ql.any fun x => x.1 == t, fun _ => false⟩
theorem Ql_flat : flatAll Go.Proofs.Try.prog Ql = true := by kernel_rfl
theorem cfg_ok : cfg.OK Go.Proofs.Try.prog := ⟨T_ok, eq_ok Ql Ql_flat (List.forall_mem_cons.2 ⟨fun ti h => (by rw [ok_24] at h; cases h; rfl), (List.forall_mem_cons.2 ⟨fun ti h => (by rw [ok_26] at h; cases h; rfl), (List.forall_mem_cons.2 ⟨fun ti h => (by rw [ok_33] at h; cases h; rfl), (List.forall_mem_cons.2 ⟨fun ti h => (by rw [ok_35] at h; cases h; rfl), (List.forall_mem_cons.2 ⟨fun ti h => (by rw [ok_50] at h; cases h; rfl), (List.forall_mem_cons.2 ⟨fun ti h => (by rw [ok_58] at h; cases h; rfl), (List.forall_mem_cons.2 ⟨fun ti h => (by rw [ok_85] at h; cases h; rfl), (List.forall_mem_cons.2 ⟨fun ti h => (by rw [ok_141] at h; cases h; rfl), (List.forall_mem_cons.2 ⟨fun ti h => (by rw [ok_151] at h; cases h; rfl), (fun x hx => by cases hx)⟩)⟩)⟩)⟩)⟩)⟩)⟩)⟩)⟩)⟩
end Go.Jo.S
