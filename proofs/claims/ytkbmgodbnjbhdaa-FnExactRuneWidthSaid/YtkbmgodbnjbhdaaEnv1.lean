/- The types of the seat's program. -/
import Derived.Test.YtkbmgodbnjbhdaaAw25
import Derived.Test.YtkbmgodbnjbhdaaProg
namespace Go.AW
open Go.Proofs
def env : Env
  | 1 => ⟨.fn, 1, 8, [.nilFunc]⟩
  | 2 => ⟨(.int .i64), 1, 8, [.int .i64 0]⟩
  | 3 => ⟨(.int .i64), 1, 8, [.int .i64 0]⟩
  | 4 => ⟨.bool, 1, 1, [.bool false]⟩
  | 5 => ⟨(.int .u8), 1, 1, [.int .u8 0]⟩
  | 6 => ⟨(.int .u8), 1, 1, [.int .u8 0]⟩
  | 7 => ⟨(.st [(0, 1), (1, 1), (2, 1), (3, 1)]), 4, 24, [.int .i64 0, .int .i64 0, .bool false, .int .u8 0]⟩
  | 8 => ⟨(.st [(0, 1), (1, 1), (2, 1), (3, 1)]), 4, 24, [.int .i64 0, .int .i64 0, .bool false, .int .u8 0]⟩
  | 9 => ⟨.str, 1, 16, [.string ⟨#[]⟩]⟩
  | 10 => ⟨.str, 1, 16, [.string ⟨#[]⟩]⟩
  | 11 => ⟨.str, 1, 16, [.string ⟨#[]⟩]⟩
  | 12 => ⟨(.int .u64), 1, 8, [.int .u64 0]⟩
  | 13 => ⟨(.st [(0, 1), (1, 1)]), 2, 24, [.string ⟨#[]⟩, .int .u64 0]⟩
  | 14 => ⟨(.st [(0, 1), (1, 1)]), 2, 24, [.string ⟨#[]⟩, .int .u64 0]⟩
  | 15 => ⟨(.ptr 89), 1, 8, [.pointer none]⟩
  | 16 => ⟨(.ptr 92), 1, 8, [.pointer none]⟩
  | 17 => ⟨(.ptr 101), 1, 8, [.pointer none]⟩
  | 18 => ⟨(.st [(0, 1)]), 1, 8, [.pointer none]⟩
  | 19 => ⟨(.st [(0, 1)]), 1, 8, [.pointer none]⟩
  | 21 => ⟨(.int .i32), 1, 4, [.int .i32 0]⟩
  | 22 => ⟨.fn, 1, 8, [.nilFunc]⟩
  | 23 => ⟨.fn, 1, 8, [.nilFunc]⟩
  | 24 => ⟨.fn, 1, 8, [.nilFunc]⟩
  | 25 => ⟨(.sl 65), 1, 24, [.slice none 0 0]⟩
  | 26 => ⟨.fn, 1, 8, [.nilFunc]⟩
  | 27 => ⟨.fn, 1, 8, [.nilFunc]⟩
  | 28 => ⟨(.sl 66), 1, 24, [.slice none 0 0]⟩
  | 29 => ⟨.fn, 1, 8, [.nilFunc]⟩
  | 30 => ⟨.fn, 1, 8, [.nilFunc]⟩
  | 31 => ⟨.fn, 1, 8, [.nilFunc]⟩
  | 32 => ⟨(.sl 5), 1, 24, [.slice none 0 0]⟩
  | 33 => ⟨(.sl 21), 1, 24, [.slice none 0 0]⟩
  | 34 => ⟨.fn, 1, 8, [.nilFunc]⟩
  | 35 => ⟨.fn, 1, 8, [.nilFunc]⟩
  | 36 => ⟨.fn, 1, 8, [.nilFunc]⟩
  | 37 => ⟨.fn, 1, 8, [.nilFunc]⟩
  | 38 => ⟨.fn, 1, 8, [.nilFunc]⟩
  | 39 => ⟨.fn, 1, 8, [.nilFunc]⟩
  | 40 => ⟨.fn, 1, 8, [.nilFunc]⟩
  | 41 => ⟨(.st [(0, 1), (1, 1)]), 2, 32, [.slice none 0 0, .bool false]⟩
  | 42 => ⟨(.st [(0, 1), (1, 1)]), 2, 32, [.slice none 0 0, .bool false]⟩
  | 43 => ⟨.fn, 1, 8, [.nilFunc]⟩
  | 44 => ⟨(.st [(0, 1), (1, 1)]), 2, 32, [.slice none 0 0, .bool false]⟩
  | 45 => ⟨(.sl 77), 1, 24, [.slice none 0 0]⟩
  | 47 => ⟨.fn, 1, 8, [.nilFunc]⟩
  | 48 => ⟨.fn, 1, 8, [.nilFunc]⟩
  | 49 => ⟨.fn, 1, 8, [.nilFunc]⟩
  | 50 => ⟨.fn, 1, 8, [.nilFunc]⟩
  | 51 => ⟨.fn, 1, 8, [.nilFunc]⟩
  | 52 => ⟨.fn, 1, 8, [.nilFunc]⟩
  | 53 => ⟨.fn, 1, 8, [.nilFunc]⟩
  | 54 => ⟨.fn, 1, 8, [.nilFunc]⟩
  | 55 => ⟨.fn, 1, 8, [.nilFunc]⟩
  | 56 => ⟨.fn, 1, 8, [.nilFunc]⟩
  | 57 => ⟨.fn, 1, 8, [.nilFunc]⟩
  | 58 => ⟨(.sl 3), 1, 24, [.slice none 0 0]⟩
  | 59 => ⟨.fn, 1, 8, [.nilFunc]⟩
  | 60 => ⟨.fn, 1, 8, [.nilFunc]⟩
  | 61 => ⟨(.sl 82), 1, 24, [.slice none 0 0]⟩
  | 62 => ⟨.fn, 1, 8, [.nilFunc]⟩
  | 63 => ⟨.fn, 1, 8, [.nilFunc]⟩
  | 64 => ⟨(.st [(0, 1), (1, 1)]), 2, 32, [.slice none 0 0, .int .i64 0]⟩
  | 65 => ⟨(.st [(0, 1), (1, 1)]), 2, 32, [.slice none 0 0, .int .i64 0]⟩
  | 66 => ⟨(.st [(0, 1), (1, 1)]), 2, 32, [.slice none 0 0, .int .i64 0]⟩
  | 67 => ⟨.fn, 1, 8, [.nilFunc]⟩
  | 68 => ⟨.fn, 1, 8, [.nilFunc]⟩
  | 69 => ⟨.fn, 1, 8, [.nilFunc]⟩
  | 70 => ⟨.fn, 1, 8, [.nilFunc]⟩
  | 71 => ⟨.fn, 1, 8, [.nilFunc]⟩
  | 73 => ⟨.fn, 1, 8, [.nilFunc]⟩
  | 74 => ⟨.fn, 1, 8, [.nilFunc]⟩
  | 75 => ⟨.fn, 1, 8, [.nilFunc]⟩
  | 76 => ⟨(.st [(0, 1), (1, 1)]), 2, 32, [.int .i64 0, .slice none 0 0]⟩
  | 77 => ⟨(.st [(0, 1), (1, 1)]), 2, 32, [.int .i64 0, .slice none 0 0]⟩
  | 78 => ⟨.fn, 1, 8, [.nilFunc]⟩
  | 79 => ⟨(.ptr 66), 1, 8, [.pointer none]⟩
  | 80 => ⟨.fn, 1, 8, [.nilFunc]⟩
  | 81 => ⟨(.st [(0, 1), (1, 1)]), 2, 8, [.int .i32 0, .int .i32 0]⟩
  | 82 => ⟨(.st [(0, 1), (1, 1)]), 2, 8, [.int .i32 0, .int .i32 0]⟩
  | 83 => ⟨(.int .u32), 1, 4, [.int .u32 0]⟩
  | 84 => ⟨.fn, 1, 8, [.nilFunc]⟩
  | 85 => ⟨.fn, 1, 8, [.nilFunc]⟩
  | 86 => ⟨(.int .u64), 1, 8, [.int .u64 0]⟩
  | 87 => ⟨.fn, 1, 8, [.nilFunc]⟩
  | 88 => ⟨(.st [(0, 1), (1, 1), (2, 1), (3, 1)]), 4, 40, [.pointer none, .pointer none, .pointer none, .string ⟨#[]⟩]⟩
  | 89 => ⟨(.st [(0, 1), (1, 1), (2, 1), (3, 1)]), 4, 40, [.pointer none, .pointer none, .pointer none, .string ⟨#[]⟩]⟩
  | 90 => ⟨(.arr 0 16), 0, 0, []⟩
  | 91 => ⟨(.st [(0, 0)]), 0, 0, []⟩
  | 92 => ⟨(.st [(0, 0)]), 0, 0, []⟩
  | 93 => ⟨.fn, 1, 8, [.nilFunc]⟩
  | 94 => ⟨(.int .u8), 1, 1, [.int .u8 0]⟩
  | 95 => ⟨(.int .u8), 1, 1, [.int .u8 0]⟩
  | 96 => ⟨.fn, 1, 8, [.nilFunc]⟩
  | 97 => ⟨(.ptr 5), 1, 8, [.pointer none]⟩
  | 98 => ⟨(.int .i32), 1, 4, [.int .i32 0]⟩
  | 99 => ⟨(.int .i32), 1, 4, [.int .i32 0]⟩
  | 100 => ⟨(.st [(0, 1), (1, 1), (2, 1), (3, 1), (4, 1), (5, 1), (6, 1), (7, 1), (8, 1), (9, 1), (10, 1)]), 11, 48, [.int .u64 0, .int .u64 0, .int .u32 0, .int .u8 0, .int .u8 0, .int .u8 0, .int .u8 0, .nilFunc, .pointer none, .int .i32 0, .int .i32 0]⟩
  | 101 => ⟨(.st [(0, 1), (1, 1), (2, 1), (3, 1), (4, 1), (5, 1), (6, 1), (7, 1), (8, 1), (9, 1), (10, 1)]), 11, 48, [.int .u64 0, .int .u64 0, .int .u32 0, .int .u8 0, .int .u8 0, .int .u8 0, .int .u8 0, .nilFunc, .pointer none, .int .i32 0, .int .i32 0]⟩
  | _ => noTI
theorem env_out : ∀ t, 102 ≤ t → (env t).k = .other := by
  intro t h
  unfold env
  split <;> first | omega | rfl
set_option maxRecDepth 100000 in
theorem envOk : EnvOk Try.prog env := envOk_of (N := 102) (by kernel_rfl) env_out
end Go.AW
