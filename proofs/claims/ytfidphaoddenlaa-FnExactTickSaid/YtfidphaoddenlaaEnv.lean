/- The types of the seat's program. -/
import Derived.Test.YtfidphaoddenlaaAw29
import Derived.Test.YtfidphaoddenlaaProg
set_option linter.unusedSimpArgs false
set_option linter.unusedVariables false
namespace Go.AW
open Go.Proofs
def env0 : Env
  | 1 => ⟨.fn, 1, 8, [.nilFunc]⟩
  | 2 => ⟨(.int .i64), 1, 8, [.int .i64 0]⟩
  | 3 => ⟨(.int .i64), 1, 8, [.int .i64 0]⟩
  | 4 => ⟨.bool, 1, 1, [.bool false]⟩
  | 5 => ⟨(.int .u8), 1, 1, [.int .u8 0]⟩
  | 6 => ⟨(.int .u8), 1, 1, [.int .u8 0]⟩
  | 7 => ⟨(.st [(0, 1), (1, 1), (2, 1), (3, 1)]), 4, 24, [.int .i64 0, .int .i64 0, .bool false, .int .u8 0]⟩
  | 8 => ⟨(.st [(0, 1), (1, 1), (2, 1), (3, 1)]), 4, 24, [.int .i64 0, .int .i64 0, .bool false, .int .u8 0]⟩
  | 9 => ⟨.str, 1, 16, [.string ⟨#[]⟩]⟩
  | 10 => ⟨.str, 1, 16, [.string ⟨#[]⟩]⟩
  | 11 => ⟨.str, 1, 16, [.string ⟨#[]⟩]⟩
  | 12 => ⟨(.int .u64), 1, 8, [.int .u64 0]⟩
  | 13 => ⟨(.st [(0, 1), (1, 1)]), 2, 24, [.string ⟨#[]⟩, .int .u64 0]⟩
  | 14 => ⟨(.st [(0, 1), (1, 1)]), 2, 24, [.string ⟨#[]⟩, .int .u64 0]⟩
  | 15 => ⟨(.ptr 166), 1, 8, [.pointer none]⟩
  | 16 => ⟨(.ptr 169), 1, 8, [.pointer none]⟩
  | 17 => ⟨(.ptr 178), 1, 8, [.pointer none]⟩
  | 18 => ⟨(.st [(0, 1)]), 1, 8, [.pointer none]⟩
  | 19 => ⟨(.st [(0, 1)]), 1, 8, [.pointer none]⟩
  | 21 => ⟨(.int .i32), 1, 4, [.int .i32 0]⟩
  | 22 => ⟨(.sl 99), 1, 24, [.slice none 0 0]⟩
  | 23 => ⟨.fn, 1, 8, [.nilFunc]⟩
  | _ => noTI
def env1 : Env
  | 24 => ⟨.fn, 1, 8, [.nilFunc]⟩
  | 25 => ⟨(.sl 100), 1, 24, [.slice none 0 0]⟩
  | 26 => ⟨.fn, 1, 8, [.nilFunc]⟩
  | 27 => ⟨.fn, 1, 8, [.nilFunc]⟩
  | 28 => ⟨.fn, 1, 8, [.nilFunc]⟩
  | 29 => ⟨(.sl 5), 1, 24, [.slice none 0 0]⟩
  | 30 => ⟨(.sl 21), 1, 24, [.slice none 0 0]⟩
  | 31 => ⟨.fn, 1, 8, [.nilFunc]⟩
  | 32 => ⟨.fn, 1, 8, [.nilFunc]⟩
  | 33 => ⟨.fn, 1, 8, [.nilFunc]⟩
  | 34 => ⟨.fn, 1, 8, [.nilFunc]⟩
  | 35 => ⟨.fn, 1, 8, [.nilFunc]⟩
  | 36 => ⟨.fn, 1, 8, [.nilFunc]⟩
  | 37 => ⟨.fn, 1, 8, [.nilFunc]⟩
  | 38 => ⟨(.st [(0, 1), (1, 1)]), 2, 32, [.slice none 0 0, .bool false]⟩
  | 39 => ⟨(.st [(0, 1), (1, 1)]), 2, 32, [.slice none 0 0, .bool false]⟩
  | 40 => ⟨.fn, 1, 8, [.nilFunc]⟩
  | 41 => ⟨(.st [(0, 1), (1, 1)]), 2, 32, [.slice none 0 0, .bool false]⟩
  | 42 => ⟨(.sl 111), 1, 24, [.slice none 0 0]⟩
  | 44 => ⟨.fn, 1, 8, [.nilFunc]⟩
  | 45 => ⟨.fn, 1, 8, [.nilFunc]⟩
  | 46 => ⟨.fn, 1, 8, [.nilFunc]⟩
  | 47 => ⟨.fn, 1, 8, [.nilFunc]⟩
  | _ => noTI
def env2 : Env
  | 48 => ⟨.fn, 1, 8, [.nilFunc]⟩
  | 49 => ⟨.fn, 1, 8, [.nilFunc]⟩
  | 50 => ⟨.fn, 1, 8, [.nilFunc]⟩
  | 51 => ⟨.fn, 1, 8, [.nilFunc]⟩
  | 52 => ⟨.fn, 1, 8, [.nilFunc]⟩
  | 53 => ⟨.fn, 1, 8, [.nilFunc]⟩
  | 54 => ⟨.fn, 1, 8, [.nilFunc]⟩
  | 55 => ⟨(.sl 25), 1, 24, [.slice none 0 0]⟩
  | 56 => ⟨.fn, 1, 8, [.nilFunc]⟩
  | 57 => ⟨.fn, 1, 8, [.nilFunc]⟩
  | 58 => ⟨.fn, 1, 8, [.nilFunc]⟩
  | 59 => ⟨.fn, 1, 8, [.nilFunc]⟩
  | 60 => ⟨(.sl 118), 1, 24, [.slice none 0 0]⟩
  | 61 => ⟨(.sl 9), 1, 24, [.slice none 0 0]⟩
  | 62 => ⟨(.st [(0, 1), (1, 1), (2, 1), (3, 1), (4, 1), (5, 1), (6, 1), (7, 1)]), 8, 112, [.int .i64 0, .int .i64 0, .slice none 0 0, .int .i64 0, .int .i64 0, .bool false, .slice none 0 0, .slice none 0 0]⟩
  | 63 => ⟨(.st [(0, 1), (1, 1), (2, 1), (3, 1), (4, 1), (5, 1), (6, 1), (7, 1)]), 8, 112, [.int .i64 0, .int .i64 0, .slice none 0 0, .int .i64 0, .int .i64 0, .bool false, .slice none 0 0, .slice none 0 0]⟩
  | 65 => ⟨.fn, 1, 8, [.nilFunc]⟩
  | 66 => ⟨.fn, 1, 8, [.nilFunc]⟩
  | 67 => ⟨.fn, 1, 8, [.nilFunc]⟩
  | 68 => ⟨.fn, 1, 8, [.nilFunc]⟩
  | 69 => ⟨.fn, 1, 8, [.nilFunc]⟩
  | 70 => ⟨.fn, 1, 8, [.nilFunc]⟩
  | 71 => ⟨(.sl 150), 1, 24, [.slice none 0 0]⟩
  | _ => noTI
def env3 : Env
  | 72 => ⟨(.st [(0, 1), (1, 1), (2, 1), (3, 1), (4, 1), (5, 1), (6, 1), (7, 1)]), 8, 112, [.int .i64 0, .int .i64 0, .slice none 0 0, .int .i64 0, .int .i64 0, .bool false, .slice none 0 0, .slice none 0 0]⟩
  | 73 => ⟨(.st [(0, 1), (1, 1), (2, 1), (3, 1), (4, 1), (5, 1), (6, 1), (7, 1)]), 8, 112, [.int .i64 0, .int .i64 0, .slice none 0 0, .int .i64 0, .int .i64 0, .bool false, .slice none 0 0, .slice none 0 0]⟩
  | 74 => ⟨.fn, 1, 8, [.nilFunc]⟩
  | 75 => ⟨.fn, 1, 8, [.nilFunc]⟩
  | 76 => ⟨.fn, 1, 8, [.nilFunc]⟩
  | 77 => ⟨.fn, 1, 8, [.nilFunc]⟩
  | 78 => ⟨(.st [(0, 1), (1, 1)]), 2, 32, [.int .i64 0, .slice none 0 0]⟩
  | 79 => ⟨(.st [(0, 1), (1, 1)]), 2, 32, [.int .i64 0, .slice none 0 0]⟩
  | 80 => ⟨.fn, 1, 8, [.nilFunc]⟩
  | 81 => ⟨.fn, 1, 8, [.nilFunc]⟩
  | 82 => ⟨(.st [(0, 1), (1, 1)]), 2, 32, [.int .i64 0, .slice none 0 0]⟩
  | 83 => ⟨.fn, 1, 8, [.nilFunc]⟩
  | 84 => ⟨.fn, 1, 8, [.nilFunc]⟩
  | 85 => ⟨.fn, 1, 8, [.nilFunc]⟩
  | 86 => ⟨(.sl 153), 1, 24, [.slice none 0 0]⟩
  | 87 => ⟨(.st [(0, 1), (1, 1), (2, 1), (3, 1)]), 4, 72, [.string ⟨#[]⟩, .string ⟨#[]⟩, .string ⟨#[]⟩, .slice none 0 0]⟩
  | 88 => ⟨(.st [(0, 1), (1, 1), (2, 1), (3, 1)]), 4, 72, [.string ⟨#[]⟩, .string ⟨#[]⟩, .string ⟨#[]⟩, .slice none 0 0]⟩
  | 89 => ⟨.fn, 1, 8, [.nilFunc]⟩
  | 90 => ⟨.fn, 1, 8, [.nilFunc]⟩
  | 91 => ⟨(.sl 133), 1, 24, [.slice none 0 0]⟩
  | 92 => ⟨(.st [(0, 1), (1, 1), (2, 1), (3, 1)]), 4, 72, [.string ⟨#[]⟩, .string ⟨#[]⟩, .string ⟨#[]⟩, .slice none 0 0]⟩
  | 93 => ⟨(.st [(0, 1), (1, 1), (2, 1), (3, 1)]), 4, 72, [.string ⟨#[]⟩, .string ⟨#[]⟩, .string ⟨#[]⟩, .slice none 0 0]⟩
  | 94 => ⟨.fn, 1, 8, [.nilFunc]⟩
  | 95 => ⟨.fn, 1, 8, [.nilFunc]⟩
  | _ => noTI
def env4 : Env
  | 96 => ⟨.fn, 1, 8, [.nilFunc]⟩
  | 97 => ⟨.fn, 1, 8, [.nilFunc]⟩
  | 98 => ⟨(.st [(0, 1), (1, 1)]), 2, 32, [.slice none 0 0, .int .i64 0]⟩
  | 99 => ⟨(.st [(0, 1), (1, 1)]), 2, 32, [.slice none 0 0, .int .i64 0]⟩
  | 100 => ⟨(.st [(0, 1), (1, 1)]), 2, 32, [.slice none 0 0, .int .i64 0]⟩
  | 101 => ⟨.fn, 1, 8, [.nilFunc]⟩
  | 102 => ⟨.fn, 1, 8, [.nilFunc]⟩
  | 103 => ⟨.fn, 1, 8, [.nilFunc]⟩
  | 104 => ⟨.fn, 1, 8, [.nilFunc]⟩
  | 105 => ⟨.fn, 1, 8, [.nilFunc]⟩
  | 107 => ⟨.fn, 1, 8, [.nilFunc]⟩
  | 108 => ⟨.fn, 1, 8, [.nilFunc]⟩
  | 109 => ⟨.fn, 1, 8, [.nilFunc]⟩
  | 110 => ⟨(.st [(0, 1), (1, 1)]), 2, 32, [.int .i64 0, .slice none 0 0]⟩
  | 111 => ⟨(.st [(0, 1), (1, 1)]), 2, 32, [.int .i64 0, .slice none 0 0]⟩
  | 112 => ⟨.fn, 1, 8, [.nilFunc]⟩
  | 113 => ⟨.fn, 1, 8, [.nilFunc]⟩
  | 114 => ⟨(.ptr 100), 1, 8, [.pointer none]⟩
  | 115 => ⟨(.sl 3), 1, 24, [.slice none 0 0]⟩
  | 116 => ⟨.fn, 1, 8, [.nilFunc]⟩
  | 117 => ⟨.fn, 1, 8, [.nilFunc]⟩
  | 118 => ⟨(.sl 127), 1, 24, [.slice none 0 0]⟩
  | 119 => ⟨.fn, 1, 8, [.nilFunc]⟩
  | _ => noTI
def env5 : Env
  | 120 => ⟨.fn, 1, 8, [.nilFunc]⟩
  | 121 => ⟨.fn, 1, 8, [.nilFunc]⟩
  | 122 => ⟨.fn, 1, 8, [.nilFunc]⟩
  | 123 => ⟨.fn, 1, 8, [.nilFunc]⟩
  | 124 => ⟨.fn, 1, 8, [.nilFunc]⟩
  | 125 => ⟨.fn, 1, 8, [.nilFunc]⟩
  | 126 => ⟨(.st [(0, 1), (1, 1)]), 2, 24, [.string ⟨#[]⟩, .bool false]⟩
  | 127 => ⟨(.st [(0, 1), (1, 1)]), 2, 24, [.string ⟨#[]⟩, .bool false]⟩
  | 128 => ⟨.fn, 1, 8, [.nilFunc]⟩
  | 129 => ⟨.fn, 1, 8, [.nilFunc]⟩
  | 130 => ⟨.fn, 1, 8, [.nilFunc]⟩
  | 131 => ⟨.fn, 1, 8, [.nilFunc]⟩
  | 132 => ⟨(.st [(0, 1), (1, 1)]), 2, 32, [.string ⟨#[]⟩, .string ⟨#[]⟩]⟩
  | 133 => ⟨(.st [(0, 1), (1, 1)]), 2, 32, [.string ⟨#[]⟩, .string ⟨#[]⟩]⟩
  | 134 => ⟨.fn, 1, 8, [.nilFunc]⟩
  | 135 => ⟨.fn, 1, 8, [.nilFunc]⟩
  | 136 => ⟨.fn, 1, 8, [.nilFunc]⟩
  | 137 => ⟨.fn, 1, 8, [.nilFunc]⟩
  | 138 => ⟨(.int .u32), 1, 4, [.int .u32 0]⟩
  | 139 => ⟨.fn, 1, 8, [.nilFunc]⟩
  | 140 => ⟨.fn, 1, 8, [.nilFunc]⟩
  | 141 => ⟨.fn, 1, 8, [.nilFunc]⟩
  | 142 => ⟨.fn, 1, 8, [.nilFunc]⟩
  | 143 => ⟨.fn, 1, 8, [.nilFunc]⟩
  | _ => noTI
def env6 : Env
  | 144 => ⟨(.sl 159), 1, 24, [.slice none 0 0]⟩
  | 145 => ⟨.fn, 1, 8, [.nilFunc]⟩
  | 146 => ⟨.fn, 1, 8, [.nilFunc]⟩
  | 147 => ⟨.fn, 1, 8, [.nilFunc]⟩
  | 148 => ⟨.fn, 1, 8, [.nilFunc]⟩
  | 149 => ⟨.fn, 1, 8, [.nilFunc]⟩
  | 150 => ⟨(.sl 162), 1, 24, [.slice none 0 0]⟩
  | 151 => ⟨.fn, 1, 8, [.nilFunc]⟩
  | 152 => ⟨.fn, 1, 8, [.nilFunc]⟩
  | 153 => ⟨(.st [(0, 1), (1, 1)]), 2, 32, [.string ⟨#[]⟩, .string ⟨#[]⟩]⟩
  | 154 => ⟨.fn, 1, 8, [.nilFunc]⟩
  | 155 => ⟨.fn, 1, 8, [.nilFunc]⟩
  | 156 => ⟨(.int .u64), 1, 8, [.int .u64 0]⟩
  | 157 => ⟨.fn, 1, 8, [.nilFunc]⟩
  | 158 => ⟨(.st [(0, 1), (1, 1)]), 2, 8, [.int .i32 0, .int .i32 0]⟩
  | 159 => ⟨(.st [(0, 1), (1, 1)]), 2, 8, [.int .i32 0, .int .i32 0]⟩
  | 160 => ⟨.fn, 1, 8, [.nilFunc]⟩
  | 161 => ⟨.fn, 1, 8, [.nilFunc]⟩
  | 162 => ⟨(.st [(0, 1), (1, 1)]), 2, 24, [.string ⟨#[]⟩, .bool false]⟩
  | 163 => ⟨.fn, 1, 8, [.nilFunc]⟩
  | 164 => ⟨.fn, 1, 8, [.nilFunc]⟩
  | 165 => ⟨(.st [(0, 1), (1, 1), (2, 1), (3, 1)]), 4, 40, [.pointer none, .pointer none, .pointer none, .string ⟨#[]⟩]⟩
  | 166 => ⟨(.st [(0, 1), (1, 1), (2, 1), (3, 1)]), 4, 40, [.pointer none, .pointer none, .pointer none, .string ⟨#[]⟩]⟩
  | 167 => ⟨(.arr 0 16), 0, 0, []⟩
  | _ => noTI
def env7 : Env
  | 168 => ⟨(.st [(0, 0)]), 0, 0, []⟩
  | 169 => ⟨(.st [(0, 0)]), 0, 0, []⟩
  | 170 => ⟨.fn, 1, 8, [.nilFunc]⟩
  | 171 => ⟨(.int .u8), 1, 1, [.int .u8 0]⟩
  | 172 => ⟨(.int .u8), 1, 1, [.int .u8 0]⟩
  | 173 => ⟨.fn, 1, 8, [.nilFunc]⟩
  | 174 => ⟨(.ptr 5), 1, 8, [.pointer none]⟩
  | 175 => ⟨(.int .i32), 1, 4, [.int .i32 0]⟩
  | 176 => ⟨(.int .i32), 1, 4, [.int .i32 0]⟩
  | 177 => ⟨(.st [(0, 1), (1, 1), (2, 1), (3, 1), (4, 1), (5, 1), (6, 1), (7, 1), (8, 1), (9, 1), (10, 1)]), 11, 48, [.int .u64 0, .int .u64 0, .int .u32 0, .int .u8 0, .int .u8 0, .int .u8 0, .int .u8 0, .nilFunc, .pointer none, .int .i32 0, .int .i32 0]⟩
  | 178 => ⟨(.st [(0, 1), (1, 1), (2, 1), (3, 1), (4, 1), (5, 1), (6, 1), (7, 1), (8, 1), (9, 1), (10, 1)]), 11, 48, [.int .u64 0, .int .u64 0, .int .u32 0, .int .u8 0, .int .u8 0, .int .u8 0, .int .u8 0, .nilFunc, .pointer none, .int .i32 0, .int .i32 0]⟩
  | _ => noTI
def env : Env := fun t => bif Nat.ble 179 t then noTI else bif Nat.blt t 24 then env0 t else bif Nat.blt t 48 then env1 t else bif Nat.blt t 72 then env2 t else bif Nat.blt t 96 then env3 t else bif Nat.blt t 120 then env4 t else bif Nat.blt t 144 then env5 t else bif Nat.blt t 168 then env6 t else bif Nat.blt t 192 then env7 t else noTI
theorem env_out : ∀ t, 179 ≤ t → (env t).k = .other := by
  intro t h
  unfold env
  rw [show Nat.ble 179 t = true from Nat.ble_eq_true_of_le h]
  rfl
set_option maxRecDepth 100000 in
theorem envOk : EnvOk Try.prog env := envOk_of (N := 179) (by kernel_rfl) env_out
end Go.AW
