/- The types of the seat's program. -/
import Derived.Test.YtjnjmbenbbcdjaaDoorProg
import Derived.Lib.ItoaNum
import Derived.Shelf.Strconv.Itoa0
import Derived.Shelf.Strconv.Itoa1
import Derived.Shelf.LaysM
import Derived.Shelf.Strconv.Itoa2
import Derived.Shelf.Strconv.Itoa3
import Derived.Test.YtjnjmbenbbcdjaaDoorG3
set_option linter.unusedVariables false
set_option linter.unusedSimpArgs false
namespace Go.AW
open Go.Proofs
def env0 : Env
  | 1 => ⟨.fn, 1, 8, [.nilFunc]⟩
  | 2 => ⟨(.int .i64), 1, 8, [.int .i64 0]⟩
  | 3 => ⟨(.int .i64), 1, 8, [.int .i64 0]⟩
  | 4 => ⟨.bool, 1, 1, [.bool false]⟩
  | 5 => ⟨(.int .u8), 1, 1, [.int .u8 0]⟩
  | 6 => ⟨(.int .u8), 1, 1, [.int .u8 0]⟩
  | 7 => ⟨(.st [(0, 1), (1, 1), (2, 1), (3, 1)]), 4, 24, [.int .i64 0, .int .i64 0, .bool false, .int .u8 0]⟩
  | 8 => ⟨(.st [(0, 1), (1, 1), (2, 1), (3, 1)]), 4, 24, [.int .i64 0, .int .i64 0, .bool false, .int .u8 0]⟩
  | 9 => ⟨.str, 1, 16, [.string ⟨#[]⟩]⟩
  | 10 => ⟨.str, 1, 16, [.string ⟨#[]⟩]⟩
  | 11 => ⟨.str, 1, 16, [.string ⟨#[]⟩]⟩
  | 12 => ⟨(.int .u64), 1, 8, [.int .u64 0]⟩
  | 13 => ⟨(.st [(0, 1), (1, 1)]), 2, 24, [.string ⟨#[]⟩, .int .u64 0]⟩
  | 14 => ⟨(.st [(0, 1), (1, 1)]), 2, 24, [.string ⟨#[]⟩, .int .u64 0]⟩
  | 15 => ⟨(.ptr 188), 1, 8, [.pointer none]⟩
  | 16 => ⟨(.ptr 191), 1, 8, [.pointer none]⟩
  | 17 => ⟨(.ptr 199), 1, 8, [.pointer none]⟩
  | 18 => ⟨(.st [(0, 1)]), 1, 8, [.pointer none]⟩
  | 19 => ⟨(.st [(0, 1)]), 1, 8, [.pointer none]⟩
  | 21 => ⟨(.int .i32), 1, 4, [.int .i32 0]⟩
  | 22 => ⟨(.sl 9), 1, 24, [.slice none 0 0]⟩
  | 23 => ⟨(.st [(0, 1), (1, 1), (2, 1)]), 3, 40, [.slice none 0 0, .int .i64 0, .int .i64 0]⟩
  | _ => noTI
def env1 : Env
  | 24 => ⟨(.st [(0, 1), (1, 1), (2, 1)]), 3, 40, [.slice none 0 0, .int .i64 0, .int .i64 0]⟩
  | 25 => ⟨.fn, 1, 8, [.nilFunc]⟩
  | 26 => ⟨(.sl 5), 1, 24, [.slice none 0 0]⟩
  | 27 => ⟨.fn, 1, 8, [.nilFunc]⟩
  | 28 => ⟨(.st [(0, 1), (1, 1), (2, 1)]), 3, 40, [.slice none 0 0, .int .i64 0, .int .i64 0]⟩
  | 29 => ⟨.fn, 1, 8, [.nilFunc]⟩
  | 30 => ⟨.fn, 1, 8, [.nilFunc]⟩
  | 31 => ⟨.fn, 1, 8, [.nilFunc]⟩
  | 32 => ⟨.fn, 1, 8, [.nilFunc]⟩
  | 33 => ⟨.fn, 1, 8, [.nilFunc]⟩
  | 34 => ⟨.fn, 1, 8, [.nilFunc]⟩
  | 35 => ⟨.fn, 1, 8, [.nilFunc]⟩
  | 36 => ⟨.fn, 1, 8, [.nilFunc]⟩
  | 37 => ⟨(.sl 101), 1, 24, [.slice none 0 0]⟩
  | 38 => ⟨(.st [(0, 1), (1, 1), (2, 1), (3, 1), (4, 1), (5, 1), (6, 1), (7, 1)]), 8, 112, [.int .i64 0, .int .i64 0, .slice none 0 0, .int .i64 0, .int .i64 0, .bool false, .slice none 0 0, .slice none 0 0]⟩
  | 39 => ⟨(.st [(0, 1), (1, 1), (2, 1), (3, 1), (4, 1), (5, 1), (6, 1), (7, 1)]), 8, 112, [.int .i64 0, .int .i64 0, .slice none 0 0, .int .i64 0, .int .i64 0, .bool false, .slice none 0 0, .slice none 0 0]⟩
  | 40 => ⟨.fn, 1, 8, [.nilFunc]⟩
  | 41 => ⟨.fn, 1, 8, [.nilFunc]⟩
  | 42 => ⟨(.sl 79), 1, 24, [.slice none 0 0]⟩
  | 43 => ⟨(.st [(0, 1), (1, 1), (2, 1), (3, 1), (4, 1), (5, 1), (6, 1), (7, 1)]), 8, 112, [.int .i64 0, .int .i64 0, .slice none 0 0, .int .i64 0, .int .i64 0, .bool false, .slice none 0 0, .slice none 0 0]⟩
  | 44 => ⟨(.st [(0, 1), (1, 1), (2, 1), (3, 1), (4, 1), (5, 1), (6, 1), (7, 1)]), 8, 112, [.int .i64 0, .int .i64 0, .slice none 0 0, .int .i64 0, .int .i64 0, .bool false, .slice none 0 0, .slice none 0 0]⟩
  | 45 => ⟨.fn, 1, 8, [.nilFunc]⟩
  | 46 => ⟨.fn, 1, 8, [.nilFunc]⟩
  | 47 => ⟨.fn, 1, 8, [.nilFunc]⟩
  | _ => noTI
def env2 : Env
  | 48 => ⟨.fn, 1, 8, [.nilFunc]⟩
  | 49 => ⟨.fn, 1, 8, [.nilFunc]⟩
  | 50 => ⟨.fn, 1, 8, [.nilFunc]⟩
  | 52 => ⟨.fn, 1, 8, [.nilFunc]⟩
  | 53 => ⟨.fn, 1, 8, [.nilFunc]⟩
  | 54 => ⟨(.st [(0, 1), (1, 1)]), 2, 32, [.slice none 0 0, .bool false]⟩
  | 55 => ⟨(.st [(0, 1), (1, 1)]), 2, 32, [.slice none 0 0, .bool false]⟩
  | 56 => ⟨.fn, 1, 8, [.nilFunc]⟩
  | 57 => ⟨(.st [(0, 1), (1, 1)]), 2, 32, [.slice none 0 0, .bool false]⟩
  | 58 => ⟨(.sl 88), 1, 24, [.slice none 0 0]⟩
  | 60 => ⟨.fn, 1, 8, [.nilFunc]⟩
  | 61 => ⟨.fn, 1, 8, [.nilFunc]⟩
  | 62 => ⟨.fn, 1, 8, [.nilFunc]⟩
  | 63 => ⟨.fn, 1, 8, [.nilFunc]⟩
  | 64 => ⟨.fn, 1, 8, [.nilFunc]⟩
  | 65 => ⟨.fn, 1, 8, [.nilFunc]⟩
  | 66 => ⟨.fn, 1, 8, [.nilFunc]⟩
  | 67 => ⟨.fn, 1, 8, [.nilFunc]⟩
  | 68 => ⟨.fn, 1, 8, [.nilFunc]⟩
  | 69 => ⟨.fn, 1, 8, [.nilFunc]⟩
  | 70 => ⟨.fn, 1, 8, [.nilFunc]⟩
  | 71 => ⟨.fn, 1, 8, [.nilFunc]⟩
  | _ => noTI
def env3 : Env
  | 72 => ⟨.fn, 1, 8, [.nilFunc]⟩
  | 73 => ⟨.fn, 1, 8, [.nilFunc]⟩
  | 75 => ⟨.fn, 1, 8, [.nilFunc]⟩
  | 76 => ⟨.fn, 1, 8, [.nilFunc]⟩
  | 77 => ⟨.fn, 1, 8, [.nilFunc]⟩
  | 78 => ⟨.fn, 1, 8, [.nilFunc]⟩
  | 79 => ⟨(.sl 104), 1, 24, [.slice none 0 0]⟩
  | 80 => ⟨.fn, 1, 8, [.nilFunc]⟩
  | 81 => ⟨.fn, 1, 8, [.nilFunc]⟩
  | 82 => ⟨.fn, 1, 8, [.nilFunc]⟩
  | 83 => ⟨.fn, 1, 8, [.nilFunc]⟩
  | 84 => ⟨.fn, 1, 8, [.nilFunc]⟩
  | 85 => ⟨(.sl 21), 1, 24, [.slice none 0 0]⟩
  | 86 => ⟨.fn, 1, 8, [.nilFunc]⟩
  | 87 => ⟨(.st [(0, 1), (1, 1)]), 2, 32, [.int .i64 0, .slice none 0 0]⟩
  | 88 => ⟨(.st [(0, 1), (1, 1)]), 2, 32, [.int .i64 0, .slice none 0 0]⟩
  | 89 => ⟨(.st [(0, 1), (1, 1), (2, 1), (3, 1)]), 4, 32, [.int .i64 0, .int .i64 0, .int .i64 0, .bool false]⟩
  | 90 => ⟨(.st [(0, 1), (1, 1), (2, 1), (3, 1)]), 4, 32, [.int .i64 0, .int .i64 0, .int .i64 0, .bool false]⟩
  | 91 => ⟨.fn, 1, 8, [.nilFunc]⟩
  | 92 => ⟨.fn, 1, 8, [.nilFunc]⟩
  | 94 => ⟨.fn, 1, 8, [.nilFunc]⟩
  | 95 => ⟨(.st [(0, 1), (1, 1), (2, 1), (3, 1)]), 4, 32, [.int .i64 0, .int .i32 0, .int .i64 0, .bool false]⟩
  | _ => noTI
def env4 : Env
  | 96 => ⟨(.st [(0, 1), (1, 1), (2, 1), (3, 1)]), 4, 32, [.int .i64 0, .int .i32 0, .int .i64 0, .bool false]⟩
  | 97 => ⟨.fn, 1, 8, [.nilFunc]⟩
  | 98 => ⟨.fn, 1, 8, [.nilFunc]⟩
  | 99 => ⟨.fn, 1, 8, [.nilFunc]⟩
  | 100 => ⟨.fn, 1, 8, [.nilFunc]⟩
  | 101 => ⟨(.sl 137), 1, 24, [.slice none 0 0]⟩
  | 102 => ⟨.fn, 1, 8, [.nilFunc]⟩
  | 103 => ⟨(.st [(0, 1), (1, 1)]), 2, 24, [.string ⟨#[]⟩, .bool false]⟩
  | 104 => ⟨(.st [(0, 1), (1, 1)]), 2, 24, [.string ⟨#[]⟩, .bool false]⟩
  | 105 => ⟨.fn, 1, 8, [.nilFunc]⟩
  | 106 => ⟨.fn, 1, 8, [.nilFunc]⟩
  | 107 => ⟨(.ptr 109), 1, 8, [.pointer none]⟩
  | 108 => ⟨(.st [(0, 1), (1, 1)]), 2, 32, [.pointer none, .slice none 0 0]⟩
  | 109 => ⟨(.st [(0, 1), (1, 1)]), 2, 32, [.pointer none, .slice none 0 0]⟩
  | 113 => ⟨.fn, 1, 8, [.nilFunc]⟩
  | 114 => ⟨.fn, 1, 8, [.nilFunc]⟩
  | 115 => ⟨.fn, 1, 8, [.nilFunc]⟩
  | 116 => ⟨.fn, 1, 8, [.nilFunc]⟩
  | 117 => ⟨.fn, 1, 8, [.nilFunc]⟩
  | 118 => ⟨.fn, 1, 8, [.nilFunc]⟩
  | 119 => ⟨.fn, 1, 8, [.nilFunc]⟩
  | _ => noTI
def env5 : Env
  | 121 => ⟨.fn, 1, 8, [.nilFunc]⟩
  | 122 => ⟨.fn, 1, 8, [.nilFunc]⟩
  | 123 => ⟨.fn, 1, 8, [.nilFunc]⟩
  | 124 => ⟨.fn, 1, 8, [.nilFunc]⟩
  | 125 => ⟨(.sl 26), 1, 24, [.slice none 0 0]⟩
  | 126 => ⟨.fn, 1, 8, [.nilFunc]⟩
  | 127 => ⟨.fn, 1, 8, [.nilFunc]⟩
  | 128 => ⟨.fn, 1, 8, [.nilFunc]⟩
  | 130 => ⟨(.mp 5 3), 1, 8, [.map none]⟩
  | 131 => ⟨.fn, 1, 8, [.nilFunc]⟩
  | 132 => ⟨.fn, 1, 8, [.nilFunc]⟩
  | 134 => ⟨.fn, 1, 8, [.nilFunc]⟩
  | 135 => ⟨.fn, 1, 8, [.nilFunc]⟩
  | 136 => ⟨.fn, 1, 8, [.nilFunc]⟩
  | 137 => ⟨(.st [(0, 1), (1, 1)]), 2, 24, [.string ⟨#[]⟩, .bool false]⟩
  | 138 => ⟨.fn, 1, 8, [.nilFunc]⟩
  | 139 => ⟨.fn, 1, 8, [.nilFunc]⟩
  | 140 => ⟨(.ptr 5), 1, 8, [.pointer none]⟩
  | 141 => ⟨.fn, 1, 8, [.nilFunc]⟩
  | 142 => ⟨.fn, 1, 8, [.nilFunc]⟩
  | 143 => ⟨.fn, 1, 8, [.nilFunc]⟩
  | _ => noTI
def env6 : Env
  | 144 => ⟨(.sl 3), 1, 24, [.slice none 0 0]⟩
  | 145 => ⟨.fn, 1, 8, [.nilFunc]⟩
  | 146 => ⟨(.int .u64), 1, 8, [.int .u64 0]⟩
  | 147 => ⟨.fn, 1, 8, [.nilFunc]⟩
  | 149 => ⟨(.st [(0, 1), (1, 1)]), 2, 2, [.int .u8 0, .int .u8 0]⟩
  | 150 => ⟨(.st [(0, 1), (1, 1)]), 2, 2, [.int .u8 0, .int .u8 0]⟩
  | 151 => ⟨(.arr 16 150), 32, 32, [.int .u8 0, .int .u8 0, .int .u8 0, .int .u8 0, .int .u8 0, .int .u8 0, .int .u8 0, .int .u8 0, .int .u8 0, .int .u8 0, .int .u8 0, .int .u8 0, .int .u8 0, .int .u8 0, .int .u8 0, .int .u8 0, .int .u8 0, .int .u8 0, .int .u8 0, .int .u8 0, .int .u8 0, .int .u8 0, .int .u8 0, .int .u8 0, .int .u8 0, .int .u8 0, .int .u8 0, .int .u8 0, .int .u8 0, .int .u8 0, .int .u8 0, .int .u8 0]⟩
  | 152 => ⟨.fn, 1, 8, [.nilFunc]⟩
  | 154 => ⟨.fn, 1, 8, [.nilFunc]⟩
  | 155 => ⟨.fn, 1, 8, [.nilFunc]⟩
  | 159 => ⟨.fn, 1, 8, [.nilFunc]⟩
  | 160 => ⟨.fn, 1, 8, [.nilFunc]⟩
  | 161 => ⟨(.ptr 157), 1, 8, [.pointer none]⟩
  | 162 => ⟨.fn, 1, 8, [.nilFunc]⟩
  | 163 => ⟨(.int .u32), 1, 4, [.int .u32 0]⟩
  | 165 => ⟨.fn, 1, 8, [.nilFunc]⟩
  | 166 => ⟨(.mp 9 3), 1, 8, [.map none]⟩
  | 167 => ⟨.fn, 1, 8, [.nilFunc]⟩
  | _ => noTI
def env7 : Env
  | 168 => ⟨(.arr 24 5), 24, 24, [.int .u8 0, .int .u8 0, .int .u8 0, .int .u8 0, .int .u8 0, .int .u8 0, .int .u8 0, .int .u8 0, .int .u8 0, .int .u8 0, .int .u8 0, .int .u8 0, .int .u8 0, .int .u8 0, .int .u8 0, .int .u8 0, .int .u8 0, .int .u8 0, .int .u8 0, .int .u8 0, .int .u8 0, .int .u8 0, .int .u8 0, .int .u8 0]⟩
  | 169 => ⟨(.int .u64), 1, 8, [.int .u64 0]⟩
  | 170 => ⟨.fn, 1, 8, [.nilFunc]⟩
  | 171 => ⟨.fn, 1, 8, [.nilFunc]⟩
  | 173 => ⟨.fn, 1, 8, [.nilFunc]⟩
  | 174 => ⟨.fn, 1, 8, [.nilFunc]⟩
  | 175 => ⟨.fn, 1, 8, [.nilFunc]⟩
  | 176 => ⟨.fn, 1, 8, [.nilFunc]⟩
  | 177 => ⟨.fn, 1, 8, [.nilFunc]⟩
  | 178 => ⟨(.arr 20 169), 20, 160, [.int .u64 0, .int .u64 0, .int .u64 0, .int .u64 0, .int .u64 0, .int .u64 0, .int .u64 0, .int .u64 0, .int .u64 0, .int .u64 0, .int .u64 0, .int .u64 0, .int .u64 0, .int .u64 0, .int .u64 0, .int .u64 0, .int .u64 0, .int .u64 0, .int .u64 0, .int .u64 0]⟩
  | 179 => ⟨(.arr 65 5), 65, 65, [.int .u8 0, .int .u8 0, .int .u8 0, .int .u8 0, .int .u8 0, .int .u8 0, .int .u8 0, .int .u8 0, .int .u8 0, .int .u8 0, .int .u8 0, .int .u8 0, .int .u8 0, .int .u8 0, .int .u8 0, .int .u8 0, .int .u8 0, .int .u8 0, .int .u8 0, .int .u8 0, .int .u8 0, .int .u8 0, .int .u8 0, .int .u8 0, .int .u8 0, .int .u8 0, .int .u8 0, .int .u8 0, .int .u8 0, .int .u8 0, .int .u8 0, .int .u8 0, .int .u8 0, .int .u8 0, .int .u8 0, .int .u8 0, .int .u8 0, .int .u8 0, .int .u8 0, .int .u8 0, .int .u8 0, .int .u8 0, .int .u8 0, .int .u8 0, .int .u8 0, .int .u8 0, .int .u8 0, .int .u8 0, .int .u8 0, .int .u8 0, .int .u8 0, .int .u8 0, .int .u8 0, .int .u8 0, .int .u8 0, .int .u8 0, .int .u8 0, .int .u8 0, .int .u8 0, .int .u8 0, .int .u8 0, .int .u8 0, .int .u8 0, .int .u8 0, .int .u8 0]⟩
  | 180 => ⟨.fn, 1, 8, [.nilFunc]⟩
  | 181 => ⟨.fn, 1, 8, [.nilFunc]⟩
  | 182 => ⟨.fn, 1, 8, [.nilFunc]⟩
  | 183 => ⟨.fn, 1, 8, [.nilFunc]⟩
  | 184 => ⟨.fn, 1, 8, [.nilFunc]⟩
  | 185 => ⟨(.arr 32 5), 32, 32, [.int .u8 0, .int .u8 0, .int .u8 0, .int .u8 0, .int .u8 0, .int .u8 0, .int .u8 0, .int .u8 0, .int .u8 0, .int .u8 0, .int .u8 0, .int .u8 0, .int .u8 0, .int .u8 0, .int .u8 0, .int .u8 0, .int .u8 0, .int .u8 0, .int .u8 0, .int .u8 0, .int .u8 0, .int .u8 0, .int .u8 0, .int .u8 0, .int .u8 0, .int .u8 0, .int .u8 0, .int .u8 0, .int .u8 0, .int .u8 0, .int .u8 0, .int .u8 0]⟩
  | 186 => ⟨(.arr 64 5), 64, 64, [.int .u8 0, .int .u8 0, .int .u8 0, .int .u8 0, .int .u8 0, .int .u8 0, .int .u8 0, .int .u8 0, .int .u8 0, .int .u8 0, .int .u8 0, .int .u8 0, .int .u8 0, .int .u8 0, .int .u8 0, .int .u8 0, .int .u8 0, .int .u8 0, .int .u8 0, .int .u8 0, .int .u8 0, .int .u8 0, .int .u8 0, .int .u8 0, .int .u8 0, .int .u8 0, .int .u8 0, .int .u8 0, .int .u8 0, .int .u8 0, .int .u8 0, .int .u8 0, .int .u8 0, .int .u8 0, .int .u8 0, .int .u8 0, .int .u8 0, .int .u8 0, .int .u8 0, .int .u8 0, .int .u8 0, .int .u8 0, .int .u8 0, .int .u8 0, .int .u8 0, .int .u8 0, .int .u8 0, .int .u8 0, .int .u8 0, .int .u8 0, .int .u8 0, .int .u8 0, .int .u8 0, .int .u8 0, .int .u8 0, .int .u8 0, .int .u8 0, .int .u8 0, .int .u8 0, .int .u8 0, .int .u8 0, .int .u8 0, .int .u8 0, .int .u8 0]⟩
  | 187 => ⟨(.st [(0, 1), (1, 1), (2, 1), (3, 1)]), 4, 40, [.pointer none, .pointer none, .pointer none, .string ⟨#[]⟩]⟩
  | 188 => ⟨(.st [(0, 1), (1, 1), (2, 1), (3, 1)]), 4, 40, [.pointer none, .pointer none, .pointer none, .string ⟨#[]⟩]⟩
  | 189 => ⟨(.arr 0 16), 0, 0, []⟩
  | 190 => ⟨(.st [(0, 0)]), 0, 0, []⟩
  | 191 => ⟨(.st [(0, 0)]), 0, 0, []⟩
  | _ => noTI
def env8 : Env
  | 192 => ⟨.fn, 1, 8, [.nilFunc]⟩
  | 193 => ⟨(.int .u8), 1, 1, [.int .u8 0]⟩
  | 194 => ⟨(.int .u8), 1, 1, [.int .u8 0]⟩
  | 195 => ⟨.fn, 1, 8, [.nilFunc]⟩
  | 196 => ⟨(.int .i32), 1, 4, [.int .i32 0]⟩
  | 197 => ⟨(.int .i32), 1, 4, [.int .i32 0]⟩
  | 198 => ⟨(.st [(0, 1), (1, 1), (2, 1), (3, 1), (4, 1), (5, 1), (6, 1), (7, 1), (8, 1), (9, 1), (10, 1)]), 11, 48, [.int .u64 0, .int .u64 0, .int .u32 0, .int .u8 0, .int .u8 0, .int .u8 0, .int .u8 0, .nilFunc, .pointer none, .int .i32 0, .int .i32 0]⟩
  | 199 => ⟨(.st [(0, 1), (1, 1), (2, 1), (3, 1), (4, 1), (5, 1), (6, 1), (7, 1), (8, 1), (9, 1), (10, 1)]), 11, 48, [.int .u64 0, .int .u64 0, .int .u32 0, .int .u8 0, .int .u8 0, .int .u8 0, .int .u8 0, .nilFunc, .pointer none, .int .i32 0, .int .i32 0]⟩
  | _ => noTI
def env : Env := fun t => bif Nat.ble 200 t then noTI else bif Nat.blt t 24 then env0 t else bif Nat.blt t 48 then env1 t else bif Nat.blt t 72 then env2 t else bif Nat.blt t 96 then env3 t else bif Nat.blt t 120 then env4 t else bif Nat.blt t 144 then env5 t else bif Nat.blt t 168 then env6 t else bif Nat.blt t 192 then env7 t else bif Nat.blt t 216 then env8 t else noTI
theorem env_out : ∀ t, 200 ≤ t → (env t).k = .other := by
  intro t h
  unfold env
  rw [show Nat.ble 200 t = true from Nat.ble_eq_true_of_le h]
  rfl
set_option maxRecDepth 100000 in
theorem envOk : EnvOk Tryd.prog env := envOk_of (N := 200) (by kernel_rfl) env_out
end Go.AW
/- The abstract calculus: a callee walked within the caller's state. -/
set_option linter.unusedVariables false
set_option linter.unusedSimpArgs false
namespace Go.AW

/-- Behind the callee's body: its results, the caller's slots again. -/
def inExit (E : Env) (rts : List ResultVar) (fid : Nat) (us : List Value) (k : V → St → Prop) : Exit → St → Prop := fun e σ' =>
  match e with
  | .normal | .ret => match allS (resV1 E σ') rts, look σ'.store fid with
    | some rs, some (.frame us' vs') => us' = us ∧ k (mapV (killA fid) (packV1 rs)) (forget1 ⟨vs', σ'.store, σ'.next⟩ fid)
    | _, _ => False
  | _ => False
def inSt (ntmps : Nat) (vs : List V) (us : List Value) (σ : St) : St := ⟨vs ++ List.replicate (ntmps - vs.length) undefV, (σ.next, .frame us σ.slots) :: σ.store, σ.next + 1⟩

section
variable {P : Program} {w0 w w' : World} {mine : FP} {γ γ' : Ghost} {σ : St} {a : Act} {k : V → St → Prop} {E : Env}

theorem csem_inline (hE : EnvOk P E) (hm : P.follows .mixedOrders = true) {f : FuncId} {fn : Func} {c : Code} (hf : P.funcs[f]? = some fn) (hname : (fn.name == "runtime.NumGoroutine") = false) (hb : fn.body = some c) {rts : List ResultVar} (hres : fn.results.toList = rts)
    {vs : List V} (hnt : vs.length ≤ fn.ntmps)
    (h : ∀ us : List Value, AWP std E (Csem P w0 mine) (Lsem w0 mine) c (inSt fn.ntmps vs us σ) (inExit E rts σ.next us k)) : Csem P w0 mine f vs σ k := by
  intro γ a w args R hA
  refine .inr ⟨run_callFunc hf hname hb _ _, ?_⟩
  refine calls_of_wp hf hb ?_
  have hobj : RObj (γ.add σ.next ⟨none, 0, 0, 0, 0⟩ (fun _ => False)) w σ.next ⟨none, 0, 0, 0, 0⟩ (.frame a.tmps.toList σ.slots) := by
    have S := step_add (w := w) (w' := w) R.st.lt ⟨none, 0, 0, 0, 0⟩ (fun _ => False) (fun b o h => h)
    refine ⟨rfl, rfl, by simp [R.size], fun i => ?_⟩
    have := RV.step0 S (R.slots i)
    simpa [Array.getD_eq_getD_getElem?, List.getD_eq_getElem?_getD] using this
  have S := step_add (w := w) (w' := w) R.st.lt ⟨none, 0, 0, 0, 0⟩ (fun _ => False) (fun b o h => h)
  have R1 := R.fresh (w' := w) (fun b o h => h) R.st.keep (Nat.le_refl _) ⟨none, 0, 0, 0, 0⟩ (fun _ => False) _ hobj (fun b hb => hb.elim)
  let a0 : Act := { tmps := args.toArray ++ Array.replicate (fn.ntmps - args.toArray.size) undef, defers := [] }
  have hget : ∀ i, a0.tmps.getD i undef = args.getD i undef := by
    intro i
    simp only [a0, Array.getD_eq_getD_getElem?, List.getD_eq_getElem?_getD, Array.getElem?_append]
    by_cases hi : i < args.length
    · simp [hi]
    · simp only [List.size_toArray, hi, if_false, Array.getElem?_replicate]
      rw [List.getElem?_eq_none (by omega)]
      split <;> rfl
  have RS : Rel w0 mine (γ.add σ.next ⟨none, 0, 0, 0, 0⟩ (fun _ => False)) (inSt fn.ntmps vs a.tmps.toList σ) a0 w := by
    refine ⟨?_, fun i => ?_, R1.st⟩
    · have := hA.1
      simp [a0, inSt, this]
    · rw [hget, getN_getD]
      simp only [inSt, List.getD_eq_getElem?_getD]
      by_cases hi : i < vs.length
      · rw [List.getElem?_append_left hi]
        obtain ⟨u, hu, hr⟩ := hA.2 i _ (List.getElem?_eq_getElem hi)
        rw [hu, List.getElem?_eq_getElem hi]
        exact RV.step0 S hr
      · rw [List.getElem?_append_right (by omega), List.getElem?_replicate]
        have : (if i - vs.length < fn.ntmps - vs.length then some undefV else none).getD undefV = undefV := by split <;> rfl
        rw [this, List.getElem?_eq_none (l := args) (by have := hA.1; omega)]
        exact rv_undef
  refine AWP_sound (Q := bodyPost P fn fun e w' => ∃ u, e = .returned u ∧ Post w0 mine a k u w') hE hm c _ _ (Anch [] []) _ a0 w (keepsC_of c (noDst_nil c)) RS ⟨rfl, by simp, fun i hi => by simp at hi⟩ ?_ (h a.tmps.toList)
  intro e σ1 γ1 a1 w1 he R1 hd
  have key : inExit E rts σ.next a.tmps.toList k .ret σ1 → a1.defers = [] ∧ ∃ v, (results fn a1.tmps).run P w1 = .ok v w1 ∧ ∃ u, Ending.returned v = .returned u ∧ Post w0 mine a k u w1 := by
    intro he
    simp only [inExit] at he
    split at he
    · rename_i rs us' vs' hrs hl
      obtain ⟨rfl, hk⟩ := he
      obtain ⟨rus, r1, r2, r3⟩ := run_results hE R1 fn rts hres hrs
      refine ⟨hd.1, _, r3, _, rfl, ?_⟩
      obtain ⟨g, hg, hro⟩ := R1.st.objs _ _ hl
      obtain ⟨_, _, h3, h4⟩ := hro
      have Ra : Rel w0 mine γ1 ⟨vs', σ1.store, σ1.next⟩ a w1 := by
        refine ⟨by simpa using h3, fun i => ?_, R1.st⟩
        have := h4 i
        simpa [Array.getD_eq_getD_getElem?, List.getD_eq_getElem?_getD] using this
      have S2 : Step γ1 (γ1.del σ.next) w1 w1 (fun i => i = σ.next) (fun i => i = σ.next) (fun i => i = σ.next) := {
        root := fun i g b o h _ _ hb ho => ⟨hb, ho⟩
        g := fun i g h hne => by simp only [Ghost.del]; rw [if_neg hne]; exact h
        fp := fun i g h _ b hb => hb
        ext := fun i g h _ => Ext.refl _ _
        ro := fun b hb => hb
        rext := Ext.refl _ _ }
      exact ⟨_, _, _, hk, Ra.drop1 σ.next, (rv_pack r1 r2).kill S2 (kills_A σ.next)⟩
    · exact he.elim
  cases e <;> simp only [inExit, bodyPost] at he ⊢
  · exact key he
  · exact key he
end
theorem call_in {P : Program} {E : Env} {w0 : World} {mine : FP} {σ : St} {k : V → St → Prop} {D : Ops} {C : CallT} {L : LoopT} (hE : EnvOk P E) (hm : P.follows .mixedOrders = true) {f : FuncId} {fn : Func} {c : Code} (hf : P.funcs[f]? = some fn) (hname : (fn.name == "runtime.NumGoroutine") = false) (hb : fn.body = some c) {rts : List ResultVar} (hres : fn.results.toList = rts)
    {vs : List V} (hD : D = std) (hC : C = Csem P w0 mine) (hL : L = Lsem w0 mine) (hnt : Nat.ble vs.length fn.ntmps = true)
    (h : ∀ us : List Value, AWP D E C L c (inSt fn.ntmps vs us σ) (inExit E rts σ.next us k)) : C f vs σ k := by
  subst hD hC hL
  exact csem_inline hE hm hf hname hb hres (Nat.le_of_ble_eq_true hnt) h
end Go.AW
/- The abstract calculus, part 30: data as lists; user's terms kept from being evaluated. -/
set_option linter.unusedVariables false
set_option linter.unusedSimpArgs false
namespace Go.AW

/-! ### Contracts whose data are told through the operations, the user's terms behind u -/
abbrev UT := (α : Type) → α → α
def uid : UT := fun _ x => x
def PX (P : Program) (f : FuncId) (das : Ops → UT → List AM) (rs outs : Ops → UT → List DR) : Prop := PRet P f (das std uid) (rs std uid) (outs std uid)
theorem px_of_awp {P : Program} {E : Env} (hE : EnvOk P E) (hm : P.follows .mixedOrders = true) {f : FuncId} {fn : Func} {c : Code} (hf : P.funcs[f]? = some fn) (hname : (fn.name == "runtime.NumGoroutine") = false) (hb : fn.body = some c) {rts : List ResultVar} (hres : fn.results.toList = rts)
    {das : Ops → UT → List AM} {rs outs : Ops → UT → List DR} (hnd : noDst (lentIx (das std uid) 0) c = true) (hnt : Nat.ble (das std uid).length fn.ntmps = true)
    (h : ∀ (w0 : World) (mine : FP) (D : Ops) (u : UT) (C : CallT) (L : LoopT), D = std → u = uid → C = Csem P w0 mine → L = Lsem w0 mine → AWP D E C L c (startSt fn.ntmps (das D u)) (exitP D E rts (das D u) fun x y => drsLe x (rs D u) ∧ drsLe y (outs D u))) : PX P f das rs outs :=
  pret_of_awp hE hm hf hname hb hres hnd hnt fun w0 mine D C L hD hC hL => by
    subst hD
    exact h w0 mine std uid C L rfl rfl hC hL
def PXR (P : Program) (f : FuncId) (das : Ops → UT → List AM) (post : List DR → List DR → Prop) : Prop := PCon P f (das std uid) post
theorem callx {P : Program} {w0 : World} {mine : FP} {σ : St} {k : V → St → Prop} {f : FuncId} {D : Ops} {u : UT} {C : CallT} {vs : List V} {das : Ops → UT → List AM} {rs outs : Ops → UT → List DR}
    (hD : D = std) (hu : u = uid) (hC : C = Csem P w0 mine) (h : PX P f das rs outs) (hk : callR D (das D u) vs σ (rs D u) (outs D u) k) : C f vs σ k := by
  subst hD hu
  exact call_of rfl hC h hk
theorem px_of {P : Program} {f : FuncId} {das : Ops → UT → List AM} {rs outs : Ops → UT → List DR} (h : PRet P f (das std uid) (rs std uid) (outs std uid)) : PX P f das rs outs := h

/-! ### Lists in rows -/
def eL {α : Type} (D : Ops) (sz : Nat) (d : α) (row : α → List DV) (l : List α) : DV := .l sz (D.lenL α l) fun i => row (D.nthL α d l i)
/-- Rows f below n are the rows of a list. -/
def LR {α : Type} (row : α → List DV) (d : α) (f : Nat → List DV) (n : Nat) (l : List α) : Prop := n = l.length ∧ ∀ i, i < n → allLe DEq (f i) (row (l.getD i d))
theorem aLe_rfl : ∀ l : List DV, allLe DEq l l
  | [] => trivial
  | d :: l => ⟨DEq.rfl' d, aLe_rfl l⟩
section
variable {α : Type} {row : α → List DV} {d : α} {f g : Nat → List DV} {n m : Nat} {l l' : List α}
theorem LR.refl : LR row d (fun i => row (l.getD i d)) l.length l := ⟨rfl, fun _ _ => aLe_rfl _⟩
theorem LR.rfl' (h : n = l.length) : LR row d (fun i => row (std.nthL α d l i)) n l := ⟨h, fun _ _ => aLe_rfl _⟩
theorem LR.nil : LR row d f 0 [] := ⟨rfl, fun i hi => absurd hi (Nat.not_lt_zero i)⟩
theorem LR.one {x : α} (h : allLe DEq (f 0) (row x)) : LR row d f 1 [x] := ⟨rfl, fun i hi => by
  obtain rfl : i = 0 := by omega
  exact h⟩
theorem LR.rep {x : α} {r : List DV} (h : allLe DEq r (row x)) : LR row d (fun _ => r) n (List.replicate n x) := ⟨by simp, fun i hi => by
  rw [List.getD_eq_getElem?_getD, List.getElem?_replicate, if_pos hi]
  exact h⟩
theorem LR.cat (h : LR row d f n l) (h' : LR row d g m l') : LR row d (catR n f m g) (n + m) (l ++ l') := by
  obtain ⟨rfl, h1⟩ := h
  obtain ⟨rfl, h2⟩ := h'
  refine ⟨by simp, fun i hi => ?_⟩
  simp only [catR]
  split
  · rename_i c
    have := h2 (i - l.length) (by omega)
    rw [List.getD_eq_getElem?_getD, List.getElem?_append_right c.1]
    rwa [List.getD_eq_getElem?_getD] at this
  · have := h1 i (by omega)
    rw [List.getD_eq_getElem?_getD, List.getElem?_append_left (by omega)]
    rwa [List.getD_eq_getElem?_getD] at this
theorem LR.cat' (h : LR row d f n l) (h' : LR row d g m l') : LR row d (catR n f m g) (std.addN n m) (l ++ l') := h.cat h'
theorem LR.set {x : α} {k : Nat} {r : List DV} (h : LR row d f n l) (h' : allLe DEq r (row x)) : LR row d (std.setF f k r) n (l.set k x) := by
  obtain ⟨rfl, h1⟩ := h
  refine ⟨by simp, fun i hi => ?_⟩
  simp only [std]
  rw [List.getD_eq_getElem?_getD, List.getElem?_set]
  split
  · rename_i e; subst e
    simp only [if_true, hi]
    exact h'
  · rename_i e
    rw [if_neg (fun h => e h.symm)]
    have := h1 i hi
    rwa [List.getD_eq_getElem?_getD] at this
theorem LR.cut (h : LR row d f n l) (ha : m ≤ n) : LR row d f m (l.take m) := by
  obtain ⟨rfl, h1⟩ := h
  refine ⟨by simp; omega, fun i hi => ?_⟩
  have := h1 i (by omega)
  rw [List.getD_eq_getElem?_getD, List.getElem?_take, if_pos hi]
  rwa [List.getD_eq_getElem?_getD] at this
theorem LR.to {l'' : List α} (h : LR row d f n l) (e : l = l'') : LR row d f n l'' := e ▸ h
theorem LR.deq {sz : Nat} (h : LR row d f n l) : DEq (.l sz n f) (eL std sz d row l) := by
  obtain ⟨rfl, h1⟩ := h
  refine .l sz _ _ _ (fun i hi => (allLe_get (h1 i hi)).1) fun i j y0 y' hi e1 e2 => ?_
  obtain ⟨y, hy, h3⟩ := (allLe_get (h1 i hi)).2 j y' e2
  rw [e1] at hy; cases hy; exact h3
theorem LR.deq2 {sz : Nat} (h : LR row d f n l) : DEq (.l sz n f) (.l sz n (fun i => row (std.nthL α d l i))) := by
  have e := h.deq (sz := sz)
  unfold eL at e
  rw [show std.lenL α l = n from h.1.symm] at e
  exact e
theorem LR.len (h : LR row d f n l) : n = l.length := h.1
/-- The same as another list's rows. -/
theorem LR.same {l1 : List α} (h : n = l1.length) (hf : ∀ i, i < n → f i = row (l1.getD i d)) : LR row d f n l1 := ⟨h, fun i hi => by rw [hf i hi]; exact aLe_rfl _⟩
end
end Go.AW
namespace Go.AW
/-! ### Loops -/
def oL {α : Type} (D : Ops) (sz : Nat) (d : α) (row : α → List DV) (l : List α) : Obj := .deep sz (D.lenL α l) fun i => row (D.nthL α d l i)
def vO {α : Type} (D : Ops) (id : Nat) (l : List α) : V := .one (.lf (.o id 0 (D.lenL α l)))
section
variable {w0 : World} {mine : FP} {L : LoopT} {c : Code} {A : St → (Exit → St → Prop) → Prop} {σ : St} {K : Exit → St → Prop}
/-- A loop that counts, with a state. -/
theorem loop_st (hL : L = Lsem w0 mine) {S : Type} (n : Nat) (inv : Nat → S → Prop) (s0 : S) (vars : Nat → S → List (Nat × V)) (over : Nat → S → List (Nat × Obj)) (h0 : inv 0 s0) (hs : stLe' σ (hav c σ (vars 0 s0) (over 0 s0)))
    (hb : ∀ k s, k ≤ n → inv k s → A (hav c σ (vars k s) (over k s)) fun e σ' => match e with
      | .normal => ∃ (k' : Nat) (s' : S), k' ≤ n ∧ inv k' s' ∧ Ssem w0 mine σ' (hav c σ (vars k' s') (over k' s')) ∧ n - k' < n - k
      | e => K e σ') : L false c A σ K := by
  refine loop_of hL (ι := Nat × S) (fun x => vars x.1 x.2) (fun x => over x.1 x.2) (fun x => x.1 ≤ n ∧ inv x.1 x.2) (fun x => n - x.1) (0, s0) ⟨Nat.zero_le _, h0⟩ hs fun x hx => ?_
  have := hb x.1 x.2 hx.1 hx.2
  refine Eq.mp (congrArg (A (hav c σ (vars x.1 x.2) (over x.1 x.2))) ?_) this
  funext e σ'
  cases e <;> simp [Prod.exists, and_assoc]
/-- A loop with a state and a measure. -/
theorem loop_mu (hL : L = Lsem w0 mine) {S : Type} (inv : S → Prop) (μ : S → Nat) (s0 : S) (vars : S → List (Nat × V)) (over : S → List (Nat × Obj)) (h0 : inv s0) (hs : stLe' σ (hav c σ (vars s0) (over s0)))
    (hb : ∀ s, inv s → A (hav c σ (vars s) (over s)) fun e σ' => match e with
      | .normal => ∃ s' : S, inv s' ∧ Ssem w0 mine σ' (hav c σ (vars s') (over s')) ∧ μ s' < μ s
      | e => K e σ') : L false c A σ K :=
  loop_of hL vars over inv μ s0 h0 hs hb
end
end Go.AW
/- The program's data as Lean structures, and how they lie in cells. -/
set_option linter.unusedVariables false
set_option linter.unusedSimpArgs false
namespace Go.AW
abbrev Str := List UInt8
def rB (D : Ops) (u : UT) (x : UInt8) : List DV := [.s (.int .u8 (D.u8I x))]
def rR (D : Ops) (u : UT) (x : Int) : List DV := [.s (.int .i32 x)]
def rN (D : Ops) (u : UT) (x : Int) : List DV := [.s (.int .i64 x)]
def rT (D : Ops) (u : UT) (x : Str) : List DV := [.s (.string (D.strB x))]
def lB (D : Ops) (u : UT) (l : Str) : DV := eL D 1 0 (rB D u) l
def lR (D : Ops) (u : UT) (l : List Int) : DV := eL D 1 0 (rR D u) l
def lN (D : Ops) (u : UT) (l : List Int) : DV := eL D 1 0 (rN D u) l
def lT (D : Ops) (u : UT) (l : List Str) : DV := eL D 1 [] (rT D u) l
structure Clu where
  runes : List Int
  width : Int
abbrev dClu : Clu := ⟨[], 0⟩
def rClu (D : Ops) (u : UT) (x : Clu) : List DV := [lR D u (u _ x.runes), .s (.int .i64 (u _ x.width))]
def lClu (D : Ops) (u : UT) (l : List Clu) : DV := eL D 2 dClu (rClu D u) l
def rCluS (D : Ops) (u : UT) (x : List Clu) : List DV := [lClu D u x]
def lCluS (D : Ops) (u : UT) (l : List (List Clu)) : DV := eL D 1 [] (rCluS D u) l
theorem mClu {c1 c2 : DV} {vrunes : List Int} {vwidth : Int} (h1 : DEq c1 (lR std uid vrunes)) (h2 : DEq c2 (.s (.int .i64 vwidth))) : allLe DEq [c1, c2] (rClu std uid ⟨vrunes, vwidth⟩) := ⟨h1, h2, trivial⟩
structure Cel where
  text : Str
  half : Bool
abbrev dCel : Cel := ⟨[], false⟩
def rCel (D : Ops) (u : UT) (x : Cel) : List DV := [.s (.string (D.strB (u _ x.text))), .s (.bool (u _ x.half))]
def lCel (D : Ops) (u : UT) (l : List Cel) : DV := eL D 2 dCel (rCel D u) l
def rCelS (D : Ops) (u : UT) (x : List Cel) : List DV := [lCel D u x]
def lCelS (D : Ops) (u : UT) (l : List (List Cel)) : DV := eL D 1 [] (rCelS D u) l
theorem mCel {c1 c2 : DV} {vtext : Str} {vhalf : Bool} (h1 : DEq c1 (.s (.string (std.strB vtext)))) (h2 : DEq c2 (.s (.bool vhalf))) : allLe DEq [c1, c2] (rCel std uid ⟨vtext, vhalf⟩) := ⟨h1, h2, trivial⟩
structure Scr where
  cols : Int
  rows : Int
  grid : List (List Cel)
  row : Int
  col : Int
  late : Bool
  hold : Str
  back : List Str
abbrev dScr : Scr := ⟨0, 0, [], 0, 0, false, [], []⟩
def rScr (D : Ops) (u : UT) (x : Scr) : List DV := [.s (.int .i64 (u _ x.cols)), .s (.int .i64 (u _ x.rows)), lCelS D u (u _ x.grid), .s (.int .i64 (u _ x.row)), .s (.int .i64 (u _ x.col)), .s (.bool (u _ x.late)), lB D u (u _ x.hold), lT D u (u _ x.back)]
def lScr (D : Ops) (u : UT) (l : List Scr) : DV := eL D 8 dScr (rScr D u) l
theorem mScr {c1 c2 c3 c4 c5 c6 c7 c8 : DV} {vcols : Int} {vrows : Int} {vgrid : List (List Cel)} {vrow : Int} {vcol : Int} {vlate : Bool} {vhold : Str} {vback : List Str} (h1 : DEq c1 (.s (.int .i64 vcols))) (h2 : DEq c2 (.s (.int .i64 vrows))) (h3 : DEq c3 (lCelS std uid vgrid)) (h4 : DEq c4 (.s (.int .i64 vrow))) (h5 : DEq c5 (.s (.int .i64 vcol))) (h6 : DEq c6 (.s (.bool vlate))) (h7 : DEq c7 (lB std uid vhold)) (h8 : DEq c8 (lT std uid vback)) : allLe DEq [c1, c2, c3, c4, c5, c6, c7, c8] (rScr std uid ⟨vcols, vrows, vgrid, vrow, vcol, vlate, vhold, vback⟩) := ⟨h1, h2, h3, h4, h5, h6, h7, h8, trivial⟩
structure KRd where
  hold : Str
  paste : Bool
abbrev dKRd : KRd := ⟨[], false⟩
def rKRd (D : Ops) (u : UT) (x : KRd) : List DV := [lB D u (u _ x.hold), .s (.bool (u _ x.paste))]
def lKRd (D : Ops) (u : UT) (l : List KRd) : DV := eL D 2 dKRd (rKRd D u) l
theorem mKRd {c1 c2 : DV} {vhold : Str} {vpaste : Bool} (h1 : DEq c1 (lB std uid vhold)) (h2 : DEq c2 (.s (.bool vpaste))) : allLe DEq [c1, c2] (rKRd std uid ⟨vhold, vpaste⟩) := ⟨h1, h2, trivial⟩
structure Key where
  kind : Int
  runes : List Int
abbrev dKey : Key := ⟨0, []⟩
def rKey (D : Ops) (u : UT) (x : Key) : List DV := [.s (.int .i64 (u _ x.kind)), lR D u (u _ x.runes)]
def lKey (D : Ops) (u : UT) (l : List Key) : DV := eL D 2 dKey (rKey D u) l
theorem mKey {c1 c2 : DV} {vkind : Int} {vrunes : List Int} (h1 : DEq c1 (.s (.int .i64 vkind))) (h2 : DEq c2 (lR std uid vrunes)) : allLe DEq [c1, c2] (rKey std uid ⟨vkind, vrunes⟩) := ⟨h1, h2, trivial⟩
structure Snp where
  left : Str
  right : Str
abbrev dSnp : Snp := ⟨[], []⟩
def rSnp (D : Ops) (u : UT) (x : Snp) : List DV := [.s (.string (D.strB (u _ x.left))), .s (.string (D.strB (u _ x.right)))]
def lSnp (D : Ops) (u : UT) (l : List Snp) : DV := eL D 2 dSnp (rSnp D u) l
theorem mSnp {c1 c2 : DV} {vleft : Str} {vright : Str} (h1 : DEq c1 (.s (.string (std.strB vleft)))) (h2 : DEq c2 (.s (.string (std.strB vright)))) : allLe DEq [c1, c2] (rSnp std uid ⟨vleft, vright⟩) := ⟨h1, h2, trivial⟩
structure Lin where
  left : Str
  right : Str
  kill : Str
  undo : List Snp
abbrev dLin : Lin := ⟨[], [], [], []⟩
def rLin (D : Ops) (u : UT) (x : Lin) : List DV := [.s (.string (D.strB (u _ x.left))), .s (.string (D.strB (u _ x.right))), .s (.string (D.strB (u _ x.kill))), lSnp D u (u _ x.undo)]
def lLin (D : Ops) (u : UT) (l : List Lin) : DV := eL D 4 dLin (rLin D u) l
theorem mLin {c1 c2 c3 c4 : DV} {vleft : Str} {vright : Str} {vkill : Str} {vundo : List Snp} (h1 : DEq c1 (.s (.string (std.strB vleft)))) (h2 : DEq c2 (.s (.string (std.strB vright)))) (h3 : DEq c3 (.s (.string (std.strB vkill)))) (h4 : DEq c4 (lSnp std uid vundo)) : allLe DEq [c1, c2, c3, c4] (rLin std uid ⟨vleft, vright, vkill, vundo⟩) := ⟨h1, h2, h3, h4, trivial⟩
structure His where
  cap : Int
  items : List Str
abbrev dHis : His := ⟨0, []⟩
def rHis (D : Ops) (u : UT) (x : His) : List DV := [.s (.int .i64 (u _ x.cap)), lT D u (u _ x.items)]
def lHis (D : Ops) (u : UT) (l : List His) : DV := eL D 2 dHis (rHis D u) l
theorem mHis {c1 c2 : DV} {vcap : Int} {vitems : List Str} (h1 : DEq c1 (.s (.int .i64 vcap))) (h2 : DEq c2 (lT std uid vitems)) : allLe DEq [c1, c2] (rHis std uid ⟨vcap, vitems⟩) := ⟨h1, h2, trivial⟩
structure Blk where
  rows : List Str
  row : Int
  col : Int
abbrev dBlk : Blk := ⟨[], 0, 0⟩
def rBlk (D : Ops) (u : UT) (x : Blk) : List DV := [lT D u (u _ x.rows), .s (.int .i64 (u _ x.row)), .s (.int .i64 (u _ x.col))]
def lBlk (D : Ops) (u : UT) (l : List Blk) : DV := eL D 3 dBlk (rBlk D u) l
theorem mBlk {c1 c2 c3 : DV} {vrows : List Str} {vrow : Int} {vcol : Int} (h1 : DEq c1 (lT std uid vrows)) (h2 : DEq c2 (.s (.int .i64 vrow))) (h3 : DEq c3 (.s (.int .i64 vcol))) : allLe DEq [c1, c2, c3] (rBlk std uid ⟨vrows, vrow, vcol⟩) := ⟨h1, h2, h3, trivial⟩
structure Ses where
  prompt : Str
  cols : Int
  rows : Int
  line : Lin
  keys : KRd
  nav : Bool
  past : List Str
  at_ : Int
  draft : Str
  stopped : Bool
  queue : List Str
  log : List Str
  done : List Str
abbrev dSes : Ses := ⟨[], 0, 0, dLin, dKRd, false, [], 0, [], false, [], [], []⟩
def rSes (D : Ops) (u : UT) (x : Ses) : List DV := [.s (.string (D.strB (u _ x.prompt))), .s (.int .i64 (u _ x.cols)), .s (.int .i64 (u _ x.rows)), .s (.string (D.strB (u _ x.line.left))), .s (.string (D.strB (u _ x.line.right))), .s (.string (D.strB (u _ x.line.kill))), lSnp D u (u _ x.line.undo), lB D u (u _ x.keys.hold), .s (.bool (u _ x.keys.paste)), .s (.bool (u _ x.nav)), lT D u (u _ x.past), .s (.int .i64 (u _ x.at_)), .s (.string (D.strB (u _ x.draft))), .s (.bool (u _ x.stopped)), lT D u (u _ x.queue), lT D u (u _ x.log), lT D u (u _ x.done)]
def lSes (D : Ops) (u : UT) (l : List Ses) : DV := eL D 17 dSes (rSes D u) l
theorem mSes {c1 c2 c3 c4 c5 c6 c7 c8 c9 c10 c11 c12 c13 c14 c15 c16 c17 : DV} {vprompt : Str} {vcols : Int} {vrows : Int} {vline_left : Str} {vline_right : Str} {vline_kill : Str} {vline_undo : List Snp} {vkeys_hold : Str} {vkeys_paste : Bool} {vnav : Bool} {vpast : List Str} {vat_ : Int} {vdraft : Str} {vstopped : Bool} {vqueue : List Str} {vlog : List Str} {vdone : List Str} (h1 : DEq c1 (.s (.string (std.strB vprompt)))) (h2 : DEq c2 (.s (.int .i64 vcols))) (h3 : DEq c3 (.s (.int .i64 vrows))) (h4 : DEq c4 (.s (.string (std.strB vline_left)))) (h5 : DEq c5 (.s (.string (std.strB vline_right)))) (h6 : DEq c6 (.s (.string (std.strB vline_kill)))) (h7 : DEq c7 (lSnp std uid vline_undo)) (h8 : DEq c8 (lB std uid vkeys_hold)) (h9 : DEq c9 (.s (.bool vkeys_paste))) (h10 : DEq c10 (.s (.bool vnav))) (h11 : DEq c11 (lT std uid vpast)) (h12 : DEq c12 (.s (.int .i64 vat_))) (h13 : DEq c13 (.s (.string (std.strB vdraft)))) (h14 : DEq c14 (.s (.bool vstopped))) (h15 : DEq c15 (lT std uid vqueue)) (h16 : DEq c16 (lT std uid vlog)) (h17 : DEq c17 (lT std uid vdone)) : allLe DEq [c1, c2, c3, c4, c5, c6, c7, c8, c9, c10, c11, c12, c13, c14, c15, c16, c17] (rSes std uid ⟨vprompt, vcols, vrows, ⟨vline_left, vline_right, vline_kill, vline_undo⟩, ⟨vkeys_hold, vkeys_paste⟩, vnav, vpast, vat_, vdraft, vstopped, vqueue, vlog, vdone⟩) := ⟨h1, h2, h3, h4, h5, h6, h7, h8, h9, h10, h11, h12, h13, h14, h15, h16, h17, trivial⟩
structure Wld where
  hist : His
  sessions : List Ses
  screens : List Scr
abbrev dWld : Wld := ⟨dHis, [], []⟩
def rWld (D : Ops) (u : UT) (x : Wld) : List DV := [.s (.int .i64 (u _ x.hist.cap)), lT D u (u _ x.hist.items), lSes D u (u _ x.sessions), lScr D u (u _ x.screens)]
def lWld (D : Ops) (u : UT) (l : List Wld) : DV := eL D 4 dWld (rWld D u) l
def oB (D : Ops) (u : UT) (l : List (UInt8)) : Obj := oL D 1 0 (rB D u) l
def oR (D : Ops) (u : UT) (l : List (Int)) : Obj := oL D 1 0 (rR D u) l
def oN (D : Ops) (u : UT) (l : List (Int)) : Obj := oL D 1 0 (rN D u) l
def oT (D : Ops) (u : UT) (l : List (Str)) : Obj := oL D 1 [] (rT D u) l
def oClu (D : Ops) (u : UT) (l : List (Clu)) : Obj := oL D 2 dClu (rClu D u) l
def oCel (D : Ops) (u : UT) (l : List (Cel)) : Obj := oL D 2 dCel (rCel D u) l
def oScr (D : Ops) (u : UT) (l : List (Scr)) : Obj := oL D 8 dScr (rScr D u) l
def oKRd (D : Ops) (u : UT) (l : List (KRd)) : Obj := oL D 2 dKRd (rKRd D u) l
def oKey (D : Ops) (u : UT) (l : List (Key)) : Obj := oL D 2 dKey (rKey D u) l
def oSnp (D : Ops) (u : UT) (l : List (Snp)) : Obj := oL D 2 dSnp (rSnp D u) l
def oLin (D : Ops) (u : UT) (l : List (Lin)) : Obj := oL D 4 dLin (rLin D u) l
def oHis (D : Ops) (u : UT) (l : List (His)) : Obj := oL D 2 dHis (rHis D u) l
def oBlk (D : Ops) (u : UT) (l : List (Blk)) : Obj := oL D 3 dBlk (rBlk D u) l
def oSes (D : Ops) (u : UT) (l : List (Ses)) : Obj := oL D 17 dSes (rSes D u) l
def oWld (D : Ops) (u : UT) (l : List (Wld)) : Obj := oL D 4 dWld (rWld D u) l
def oCluS (D : Ops) (u : UT) (l : List (List Clu)) : Obj := oL D 1 [] (rCluS D u) l
def oCelS (D : Ops) (u : UT) (l : List (List Cel)) : Obj := oL D 1 [] (rCelS D u) l
theorem qB {f : Nat → List DV} {n : Nat} {l l' : List (UInt8)} (h : LR (rB std uid) 0 f n l') (e : l' = l) : DEq (.l 1 n f) (.l 1 n (fun i => rB std uid (std.nthL (UInt8) 0 l i))) := (e ▸ h).deq2
theorem qT {f : Nat → List DV} {n : Nat} {l l' : List (Str)} (h : LR (rT std uid) [] f n l') (e : l' = l) : DEq (.l 1 n f) (.l 1 n (fun i => rT std uid (std.nthL (Str) [] l i))) := (e ▸ h).deq2
theorem zB {f : Nat → List DV} : DEq (.l 0 0 f) (lB std uid []) := DEq.z _ _ _
theorem zR {f : Nat → List DV} : DEq (.l 0 0 f) (lR std uid []) := DEq.z _ _ _
theorem zN {f : Nat → List DV} : DEq (.l 0 0 f) (lN std uid []) := DEq.z _ _ _
theorem zT {f : Nat → List DV} : DEq (.l 0 0 f) (lT std uid []) := DEq.z _ _ _
theorem zClu {f : Nat → List DV} : DEq (.l 0 0 f) (lClu std uid []) := DEq.z _ _ _
theorem zCel {f : Nat → List DV} : DEq (.l 0 0 f) (lCel std uid []) := DEq.z _ _ _
theorem zScr {f : Nat → List DV} : DEq (.l 0 0 f) (lScr std uid []) := DEq.z _ _ _
theorem zKey {f : Nat → List DV} : DEq (.l 0 0 f) (lKey std uid []) := DEq.z _ _ _
theorem zSnp {f : Nat → List DV} : DEq (.l 0 0 f) (lSnp std uid []) := DEq.z _ _ _
theorem zSes {f : Nat → List DV} : DEq (.l 0 0 f) (lSes std uid []) := DEq.z _ _ _
theorem zCelS {f : Nat → List DV} : DEq (.l 0 0 f) (lCelS std uid []) := DEq.z _ _ _
end Go.AW
/- Arguments of a row, read as lists. -/
set_option linter.unusedVariables false
set_option linter.unusedSimpArgs false
namespace Go.AW
section
variable {P : Program} {t e : TypeId}
theorem rd_as' {α β : Type} {Q : α → Prop} {mk : α → List DV} {Q' : β → Prop} {mk' : β → List DV} (h : Rd P t Q mk) (f : α → β) (hq : ∀ x, Q x → Q' (f x)) (hm : ∀ x, Q x → mk' (f x) = mk x) : Rd P t Q' mk' := by
  intro H enc w fuel cs d ps hd hw
  obtain ⟨x, q, l, r⟩ := h H enc w fuel cs d ps hd hw
  exact ⟨f x, hq x q, by rw [hm x q]; exact l, fun j y hy => r j y (by rw [← hm x q]; exact hy)⟩
theorem rd_list {sz by' : Nat} (ht : P.underlying t = some (.slice e)) (hsz : P.cellsOf e = sz) (hpos : 0 < sz) (hby : P.bytesOf e = by') (hby' : 1 ≤ by') {α : Type} (dft : α) {Q : α → Prop} {mk : α → List DV} (hmk : ∀ x, (mk x).length = sz) (he : Rd P e Q mk) :
    Rd P t (fun l : List α => l.length ≤ 140737488355328 ∧ ∀ x, x ∈ l → Q x) (fun l => [eL std sz dft mk l]) := by
  intro H enc w fuel cs d ps hd hw
  haveI : Inhabited α := ⟨dft⟩
  obtain ⟨⟨n, f⟩, q, l, r⟩ := rd_slice ht hsz hpos hby hmk he H enc w fuel cs d ps hd hw
  simp only at q r l
  have hn : n ≤ 140737488355328 := by
    have : n * 1 ≤ n * by' := Nat.mul_le_mul_left n hby'
    omega
  refine ⟨(List.range n).map f, ⟨by simpa using hn, fun x hx => ?_⟩, l, fun j y hy => ?_⟩
  · obtain ⟨i, hi, rfl⟩ := List.mem_map.mp hx
    exact q.2 i (List.mem_range.mp hi)
  · cases j with
    | succ j => simp at hy
    | zero =>
      simp at hy; subst hy
      obtain ⟨u, hu, hr⟩ := r 0 _ rfl
      refine ⟨u, hu, ?_⟩
      have e1 : DEq (.l sz n fun i => mk (f i)) (.l sz n fun i => mk (((List.range n).map f).getD i dft)) := deq_rows fun i hi => by
        simp [List.getD_eq_getElem?_getD, hi]
      have := hr.deq e1
      unfold eL
      simpa [std] using this
theorem rd_str (ht : P.underlying t = some .string) : Rd P t (fun s : Str => s.length ≤ 140737488355328) (fun s => [.s (.string (std.strB s))]) :=
  rd_as' (rd_string ht) (fun s => s.data.toList) (fun s h => by
    show s.data.toList.length ≤ 140737488355328
    have : s.data.toList.length = s.size := Array.length_toList
    omega) fun s _ => by
    have : std.strB s.data.toList = s := by cases s; simp [std]
    rw [this]
theorem rd_i64' (ht : P.underlying t = some (.int .i64)) : Rd P t (fun n : Int => -9223372036854775808 ≤ n ∧ n ≤ 9223372036854775807) (fun n => [.s (.int .i64 n)]) :=
  rd_as' (rd_int ht) id (fun n h => by
    have h1 : IntKind.min .i64 = -9223372036854775808 := by decide +kernel
    have h2 : IntKind.max .i64 = 9223372036854775807 := by decide +kernel
    simp only [id]; omega) fun n _ => rfl
end
/-- A struct. -/
theorem arg_a {P : Program} {t : TypeId} {α : Type} {Q : α → Prop} {d : α → List DV} (h : Rd P t Q d) {H : Type} {enc : TypeId × Value → H} {W : World} {cs : Array Value} {dd : DataW H} {ps : List MemPlace}
    (h0 : ∃ fuel, DataW.trod enc P W 0 (fun _ => true) true fuel t (Value.cells (.agg cs)).toList = some (dd, ps)) (hw : ∀ n ∈ dd.weights P t, n ≤ reachBytes) : ∃ x, Q x ∧ ArgT W (fun b => b < W.heap.size) (.a (d x)) (.agg cs) := by
  obtain ⟨fuel, hf⟩ := h0
  obtain ⟨x, q, l, r⟩ := h H enc W fuel _ _ _ hf hw
  exact ⟨x, q, cs.toList, by simp, l, r⟩
end Go.AW
/- Tactics (development; written out in claims). -/
namespace Go.AW
theorem str_eq' {a b : ByteArray} (h : a = b) : Value.string a = Value.string b := by rw [h]
theorem str_tl (l : List UInt8) : (ByteArray.mk l.toArray).toList = l := by rw [ByteArray.toList_eq]
theorem str_sz (l : List UInt8) : (ByteArray.mk l.toArray).size = l.length := by simp [ByteArray.size]
theorem str_cat (a b : List UInt8) : ByteArray.mk a.toArray ++ ByteArray.mk b.toArray = ByteArray.mk (a ++ b).toArray := by
  have h : ∀ x y : ByteArray, x.data.toList = y.data.toList → x = y := fun x y h => by
    cases x; cases y; simp at h; congr
  apply h
  simp
theorem str_iff (a b : List UInt8) : ByteArray.mk a.toArray = ByteArray.mk b.toArray ↔ a = b := ⟨fun h => by injection h with h; simpa using h, fun h => by rw [h]⟩
theorem str_deq {e : ByteArray} {s : List UInt8} (h : e = std.strB s) : DEq (.s (.string e)) (.s (.string (std.strB s))) := h ▸ DEq.s _
theorem sr_cat {a b : ByteArray} {x y : List UInt8} (ha : a = std.strB x) (hb : b = std.strB y) : std.catS a b = std.strB (x ++ y) := by rw [ha, hb]; exact str_cat x y
theorem u8_deq {x : Int} (h : 0 ≤ x ∧ x ≤ 255) : DEq (.s (.int .u8 x)) (.s (.int .u8 (std.u8I (UInt8.ofNat x.toNat)))) := by
  have : std.u8I (UInt8.ofNat x.toNat) = x := by
    simp only [std, UInt8.toNat_ofNat']
    omega
  rw [this]
theorem sr_strF {f : Nat → List DV} {n : Nat} {l : List UInt8} (h : LR (rB std uid) 0 f n l) : std.strF n f = std.strB l := by
  obtain ⟨rfl, h⟩ := h
  have : (List.range l.length).map (fun i => unB (f i)) = l := by
    refine List.ext_getElem (by simp) fun i h1 h2 => ?_
    have h3 := h i h2
    simp only [List.getElem_map, List.getElem_range]
    rw [List.getD_eq_getElem?_getD, List.getElem?_eq_getElem h2] at h3
    simp only [rB, Option.getD_some] at h3
    generalize f i = ds at h3
    cases ds with
    | nil => exact h3.elim
    | cons c t =>
      cases t with
      | cons c2 t => exact h3.2.elim
      | nil =>
        have h4 := h3.1
        cases h4
        simp only [unB, std]
        rw [Int.toNat_natCast]
        exact UInt8.ofNat_toNat
  simp only [std]
  rw [this]
theorem u8_0 : DEq (.s (.int .u8 0)) (.s (.int .u8 (std.u8I 0))) := DEq.s _
theorem getD_mem {α : Type} (l : List α) (d : α) (k : Nat) (h : k < l.length) : l.getD k d ∈ l := by
  rw [List.getD_eq_getElem?_getD, List.getElem?_eq_getElem h]
  exact List.getElem_mem h
theorem fl1 {k : Nat} {v : Nat → Value} : std.FlatRows k (fun i => [.s (v i)]) 1 := fun i _ => ⟨rfl, fun d hd => ⟨_, List.mem_singleton.mp hd⟩⟩
theorem fl1' {k : Nat} {v : Nat → Value} : std.FlatRows k (fun j => List.map (fun c => c j) [fun i => DV.s (v i)]) 1 := fl1
theorem aLe_1 {c d : DV} (h : DEq c d) : allLe DEq [c] [d] := ⟨h, trivial⟩
theorem set_set (f : Nat → List DV) (a : Nat) (row row' : List DV) : std.setF (std.setF f a row) a row' = std.setF f a row' := by
  funext k
  simp only [std]
  split <;> rfl
theorem LR_bytes {s : List UInt8} : LR (rB std uid) 0 (fun i => [.s (.int .u8 (std.byteS (std.strB s) i))]) (std.lenS (std.strB s)) s := by
  refine ⟨by simp only [std]; exact str_sz s, fun i hi => aLe_1 ?_⟩
  exact DEq.s _
theorem take_snoc {α : Type} (a : List α) (d : α) (k : Nat) (h : k < a.length) : a.take (k + 1) = a.take k ++ [a.getD k d] := by
  rw [List.getD_eq_getElem?_getD, List.getElem?_eq_getElem h]
  exact (List.take_append_getElem h).symm
theorem set_fill {α : Type} (a : List α) (d : α) (k : Nat) (h : k < a.length) : (a.take k ++ List.replicate (a.length - k) d).set k (a.getD k d) = a.take (k + 1) ++ List.replicate (a.length - (k + 1)) d := by
  rw [show a.length - k = (a.length - (k + 1)) + 1 by omega, List.replicate_succ, List.set_append_right _ _ (by simp; omega)]
  simp only [List.length_take, Nat.min_eq_left (Nat.le_of_lt h), Nat.sub_self, List.set_cons_zero]
  rw [take_snoc a d k h, List.append_assoc]; rfl
theorem set_over {α : Type} (b a : List α) (d : α) (k : Nat) (h : k < a.length) (hb : b.length = a.length) : (b.take k ++ a.drop k).set k (b.getD k d) = b.take (k + 1) ++ a.drop (k + 1) := by
  rw [List.set_append_right _ _ (by simp; omega), take_snoc b d k (by omega), List.append_assoc, List.drop_eq_getElem_cons h]
  simp only [List.length_take, Nat.min_eq_left (show k ≤ b.length by omega), Nat.sub_self, List.set_cons_zero]
  rfl
theorem hsA {D : Ops} (hD : D = std) (f : Nat → List DV) (a : Nat) (row : List DV) : D.setF f a row a = row := by subst hD; simp [std]
theorem hsB {D : Ops} (hD : D = std) (f : Nat → List DV) (a : Nat) (row row' : List DV) : D.setF (D.setF f a row) a row' = D.setF f a row' := by subst hD; exact set_set f a row row'
/-- What a leaf is simplified by. -/
theorem S0 : (∀ n : Int, -9223372036854775808 ≤ n ∧ n ≤ 9223372036854775807 → IntKind.wrap .i64 n = n) ∧ (∀ n : Nat, (n : Int).toNat = n) ∧ (∀ n : Nat, Nat.succ n = n + 1) ∧ (∀ m n : Nat, ((m + n : Nat) : Int) = (m : Int) + n) ∧ (((1 : Nat) : Int) = 1) ∧
    (∀ (p : Prop) [Decidable p], (decide p = true) = p) ∧ (∀ (p : Prop) [Decidable p], (decide p = false) = ¬ p) ∧ (∀ a b : Int, (¬ a < b) = (b ≤ a)) ∧ (∀ a b : Int, (¬ a ≤ b) = (b < a)) ∧ (∀ a b : Nat, (¬ a < b) = (b ≤ a)) ∧ (∀ a b : Nat, (¬ a ≤ b) = (b < a)) ∧
    (∀ (α : Type) [BEq α] [LawfulBEq α] (a b : α), ((a == b) = true) = (a = b)) ∧ (∀ (α : Type) [BEq α] [LawfulBEq α] (a b : α), ((a == b) = false) = ¬ (a = b)) ∧ (∀ b : Bool, ((!b) = true) = (b = false)) ∧ (∀ b : Bool, ((!b) = false) = (b = true)) ∧ (∀ (α : Type) (a b : α), (a ≠ b) = ¬ (a = b)) ∧
    (∀ (α : Type) (a b : List α), (a ++ b).length = a.length + b.length) ∧ (∀ (α : Type) (n : Nat) (a : List α), (a.take n).length = min n a.length) ∧ (∀ (α : Type) (n : Nat) (a : List α), (a.drop n).length = a.length - n) ∧ (∀ (α : Type) (n : Nat) (a : α), (List.replicate n a).length = n) ∧
    (∀ (α : Type) (a : α) (l : List α), (a :: l).length = l.length + 1) ∧ (∀ (α : Type), ([] : List α).length = 0) ∧ (∀ (α : Type) (l : List α) (i : Nat) (a : α), (l.set i a).length = l.length) ∧ (∀ (α β : Type) (f : α → β) (l : List α), (l.map f).length = l.length) ∧
    (∀ (α : Type) (a : α), (a = a) = True) ∧ ((¬ True) = False) ∧ (∀ l : List UInt8, (ByteArray.mk l.toArray).toList = l) ∧ (∀ l : List UInt8, (ByteArray.mk l.toArray).size = l.length) ∧ (∀ a b : List UInt8, ByteArray.mk a.toArray ++ ByteArray.mk b.toArray = ByteArray.mk (a ++ b).toArray) ∧
    (∀ a b : ByteArray, (Value.string a = Value.string b) = (a = b)) ∧ (∀ (k k' : IntKind) (a b : Int), (Value.int k a = Value.int k' b) = (k = k' ∧ a = b)) ∧ (∀ a b : Bool, (Value.bool a = Value.bool b) = (a = b)) ∧ (∀ p : Prop, (True ∧ p) = p) ∧ (∀ a b : List UInt8, (ByteArray.mk a.toArray = ByteArray.mk b.toArray) = (a = b)) ∧
    (∀ a b : Int, 0 ≤ a → a.tdiv b = a / b) ∧ (∀ a b : Int, 0 ≤ a → a.tmod b = a % b) ∧ dClu = ⟨[], 0⟩ ∧ dCel = ⟨[], false⟩ ∧ dSnp = ⟨[], []⟩ ∧ dKey = ⟨0, []⟩ :=
  ⟨fun n h => wrap64 n h, fun n => Int.toNat_natCast n, fun _ => rfl, fun m n => Int.natCast_add m n, rfl, fun p _ => by simp, fun p _ => by simp, fun a b => by simp, fun a b => by simp, fun a b => by simp, fun a b => by simp,
   fun α _ _ a b => by simp, fun α _ _ a b => by simp, fun b => by simp, fun b => by simp, fun α a b => rfl, fun α a b => List.length_append, fun α n a => List.length_take, fun α n a => List.length_drop, fun α n a => List.length_replicate,
   fun α a l => rfl, fun α => rfl, fun α l i a => List.length_set, fun α β f l => List.length_map f, fun α a => by simp, by simp, str_tl, str_sz, str_cat, fun a b => by simp, fun k k' a b => by simp, fun a b => by simp, fun p => by simp, fun a b => propext (str_iff a b),
   fun a b h => Int.tdiv_eq_ediv_of_nonneg h, fun a b h => Int.tmod_eq_emod_of_nonneg h, rfl, rfl, rfl, rfl⟩
end Go.AW
/- Tactics, by lemmas whose last premise proves itself (development; the rest written out in claims). -/
namespace Go.AW
/-- An equation that simp does not see. -/
def Is {α : Type} (a b : α) : Prop := a = b
/-- A leaf that ends by itself. -/
theorem fx {P : Prop} (h : P := by first | (first | trivial | (subst hD; first | exact fun _ _ => ⟨_, rfl⟩ | exact fl1 | exact fl1') | (((try subst hD hu); (try simp only [nc] at *); (try simp only [Int.ofNat_eq_natCast] at *); try simp (disch := omega) only [std, uid, S0] at *) <;> first | omega | rfl | (exfalso; simp_all only [Bool.true_eq_false, Bool.false_eq_true]; done))) | fail) : P := h
/-- A fact of numbers. -/
theorem lo {P : Prop} (h : P := by first | (((try subst hD hu); (try simp only [nc] at *); (try simp only [Int.ofNat_eq_natCast] at *); try simp (disch := omega) only [std, uid, S0] at *); omega) | fail) : P := h
end Go.AW
/- Plain words of the laws' own functions. -/
set_option linter.unusedVariables false
set_option linter.unusedSimpArgs false
namespace Go.AW
def markL {α : Type} (mk : α → Int → α) (cnt : α → Nat) : List α → Int → List α
  | [], _ => []
  | x :: xs, k => mk x k :: markL mk cnt xs (k + cnt x)
def cntL {α : Type} (cnt : α → Nat) (l : List α) : Nat := (l.map cnt).sum
def totL {α : Type} (t : α → Nat) (l : List α) : Nat := l.length + cntL t l
def bdL {α : Type} (b : Nat → α → Prop) (N : Nat) (l : List α) : Prop := l.length ≤ N ∧ ∀ x, x ∈ l → b N x
theorem markL_len {α : Type} (mk : α → Int → α) (cnt : α → Nat) : ∀ (l : List α) (k : Int), (markL mk cnt l k).length = l.length
  | [], _ => rfl
  | x :: xs, k => by simp [markL, markL_len mk cnt xs]
theorem cntL_snoc {α : Type} (cnt : α → Nat) (l : List α) (d : α) (i : Nat) (h : i < l.length) : cntL cnt (l.take (i + 1)) = cntL cnt (l.take i) + cnt (l.getD i d) := by
  rw [take_snoc l d i h]
  simp [cntL]
theorem cntL_le {α : Type} (cnt : α → Nat) (l : List α) (i : Nat) : cntL cnt (l.take i) ≤ cntL cnt l := by
  conv => rhs; rw [← List.take_append_drop i l]
  simp only [cntL, List.map_append, List.sum_append]
  omega
theorem cntL_0 {α : Type} (cnt : α → Nat) (l : List α) : cntL cnt (l.take 0) = 0 := rfl
theorem cntL_all {α : Type} (cnt : α → Nat) (l : List α) : cntL cnt (l.take l.length) = cntL cnt l := by rw [List.take_length]
theorem cntL_tot {α : Type} {c t : α → Nat} (h : ∀ x, c x ≤ 40 * (1 + t x)) : ∀ l : List α, cntL c l ≤ 40 * totL t l
  | [] => by simp [cntL]
  | x :: l => by
    have h1 := h x
    have h2 := cntL_tot h l
    simp only [cntL, totL, List.map_cons, List.sum_cons, List.length_cons] at *
    omega
theorem le_cntL {α : Type} (cnt : α → Nat) (l : List α) (x : α) (h : x ∈ l) : cnt x ≤ cntL cnt l := by
  induction l with
  | nil => simp at h
  | cons y l ih =>
    simp only [cntL, List.map_cons, List.sum_cons] at *
    rcases List.mem_cons.mp h with rfl | h
    · omega
    · have := ih h; omega
theorem bdL_of {α : Type} {t : α → Nat} {b : Nat → α → Prop} (hb : ∀ N x, t x ≤ N → b N x) (N : Nat) (l : List α) (h : totL t l ≤ N) : bdL b N l :=
  ⟨by simp only [totL] at h; omega, fun x hx => hb N x (by have := le_cntL t l x hx; simp only [totL] at h; omega)⟩
theorem bdL_mono {α : Type} {b : Nat → α → Prop} (hb : ∀ N N' x, N ≤ N' → b N x → b N' x) (N N' : Nat) (l : List α) (hN : N ≤ N') (h : bdL b N l) : bdL b N' l :=
  ⟨Nat.le_trans h.1 hN, fun x hx => hb N N' x hN (h.2 x hx)⟩
theorem markL_get {α : Type} (mk : α → Int → α) (cnt : α → Nat) (d : α) : ∀ (l : List α) (k : Int) (i : Nat), i < l.length → (markL mk cnt l k).getD i d = mk (l.getD i d) (k + cntL cnt (l.take i))
  | [], _, i, h => by simp at h
  | x :: xs, k, 0, h => by simp [markL, cntL]
  | x :: xs, k, i + 1, h => by
    have := markL_get mk cnt d xs (k + cnt x) i (by simpa using h)
    simp only [markL, List.getD_cons_succ, this, List.take_succ_cons, cntL, List.map_cons, List.sum_cons]
    congr 1
    omega
theorem over_get {α : Type} (b a : List α) (d : α) (k : Nat) (h : k < a.length) (hb : b.length = a.length) : (b.take k ++ a.drop k).getD k d = a.getD k d := by
  rw [List.getD_eq_getElem?_getD, List.getElem?_append_right (by simp; omega), List.getElem?_drop]
  simp [Nat.min_eq_left (show k ≤ b.length by omega)]
theorem over_all {α : Type} (b a : List α) (hb : b.length = a.length) : b.take a.length ++ a.drop a.length = b := by rw [List.drop_eq_nil_of_le (Nat.le_refl _), List.append_nil, ← hb, List.take_length]
theorem fill_all {α : Type} (a : List α) (d : α) : a.take a.length ++ List.replicate (a.length - a.length) d = a := by simp
theorem fill_0 {α : Type} (a : List α) (d : α) : List.replicate a.length d = a.take 0 ++ List.replicate (a.length - 0) d := by simp
def mkR (a : List Int) (k : Int) : List Int := (List.range a.length).map fun (i : Nat) => IntKind.wrap .i32 (k + i)
theorem mkR_len (a : List Int) (k : Int) : (mkR a k).length = a.length := by simp [mkR]
def mkN (a : List Int) (k : Int) : List Int := (List.range a.length).map fun (i : Nat) => k + i
theorem mkN_len (a : List Int) (k : Int) : (mkN a k).length = a.length := by simp [mkN]
def mkB (a : Str) (k : Int) : Str := (List.range a.length).map fun (i : Nat) => UInt8.ofNat (IntKind.wrap .u8 (k + i)).toNat
theorem mkB_len (a : Str) (k : Int) : (mkB a k).length = a.length := by simp [mkB]
theorem mkB_get (a : Str) (k : Int) (i : Nat) (h : i < a.length) : (mkB a k).getD i 0 = UInt8.ofNat (IntKind.wrap .u8 (k + i)).toNat := by
  simp [mkB, List.getD_eq_getElem?_getD, h]
theorem wu8 (n : Int) : IntKind.wrap .u8 n = n % 256 := by simp [IntKind.wrap, IntKind.bits, IntKind.signed]
theorem u8_wrap (n : Int) : std.u8I (UInt8.ofNat (IntKind.wrap .u8 n).toNat) = IntKind.wrap .u8 n := by
  rw [wu8]
  simp only [std, UInt8.toNat_ofNat']
  omega
/-- The decimal text of a number above 0, least digit last. -/
def decT (fuel : Nat) (k : Int) (out : Str) : Str :=
  match fuel with
  | 0 => out
  | f + 1 => if k > 0 then decT f (k / 10) (UInt8.ofNat (48 + k % 10).toNat :: out) else out
def mtxt (k : Int) : Str := if k ≤ 0 then [109, 48] else 109 :: decT k.toNat k []
theorem decT_fuel : ∀ (f f' : Nat) (k : Int) (out : Str), k.toNat ≤ f → k.toNat ≤ f' → decT f k out = decT f' k out
  | 0, 0, _, _, _, _ => rfl
  | 0, f' + 1, k, out, h, _ => by rw [decT, decT, if_neg (by omega)]
  | f + 1, 0, k, out, _, h => by rw [decT, decT, if_neg (by omega)]
  | f + 1, f' + 1, k, out, h, h' => by
    rw [decT, decT]
    split
    · exact decT_fuel f f' _ _ (by omega) (by omega)
    · rfl
theorem decT_step (k : Int) (out : Str) (h : 0 < k) : decT k.toNat k out = decT (k / 10).toNat (k / 10) (UInt8.ofNat (48 + k % 10).toNat :: out) := by
  obtain ⟨f, hf⟩ : ∃ f, k.toNat = f + 1 := ⟨k.toNat - 1, by omega⟩
  rw [hf, decT, if_pos h]
  exact decT_fuel _ _ _ _ (by omega) (Nat.le_refl _)
structure MtI (k : Int) (s : Int × Str) : Prop where
  h1 : 0 ≤ s.1
  h2 : s.1 ≤ k
  h3 : s.2.length + s.1.toNat ≤ k.toNat
  h4 : decT s.1.toNat s.1 s.2 = decT k.toNat k []
def mkET (_ : Str) (k : Int) : Str := mtxt k
def cnET (_ : Str) : Nat := 1
def toET (s : Str) : Nat := s.length
def bdET (N : Nat) (s : Str) : Prop := s.length ≤ N
theorem boET (N : Nat) (x : Str) (h : toET x ≤ N) : bdET N x := h
theorem ccET (x : Str) : cnET x ≤ 40 * (1 + toET x) := by simp only [cnET]; omega
theorem ccLT (l : List Str) : cntL cnET l ≤ 40 * totL toET l := cntL_tot ccET l
theorem bmET (N N' : Nat) (x : Str) (hN : N ≤ N') (h : bdET N x) : bdET N' x := Nat.le_trans h hN
def okR (r : Int) : Prop := -2147483648 ≤ r ∧ r ≤ 2147483647
def okI (r : Int) : Prop := -9223372036854775808 ≤ r ∧ r ≤ 9223372036854775807
def mkEClu (x : Clu) (k : Int) : Clu := ⟨mkR x.runes (k), k + (x.runes.length : Nat)⟩
def cnEClu (x : Clu) : Nat := x.runes.length + 1
def toEClu (x : Clu) : Nat := x.runes.length
def bdEClu (N : Nat) (x : Clu) : Prop := x.runes.length ≤ N
def mvClu (x : Clu) (k : Int) : Clu := ⟨mkR x.runes (k), x.width⟩
def cvClu (x : Clu) : Nat := x.runes.length
def okClu (x : Clu) : Prop := (∀ r, r ∈ x.runes → okR r) ∧ okI x.width
def mkECluS (x : List Clu) (k : Int) : List Clu := markL mkEClu cnEClu x k
def cnECluS (x : List Clu) : Nat := cntL cnEClu x
def toECluS (x : List Clu) : Nat := totL toEClu x
def bdECluS (N : Nat) (x : List Clu) : Prop := bdL bdEClu N x
def mkECel (x : Cel) (k : Int) : Cel := ⟨mtxt (k), ((k + 1) % 3 == 0)⟩
def cnECel (x : Cel) : Nat := 1 + 1
def toECel (x : Cel) : Nat := x.text.length
def bdECel (N : Nat) (x : Cel) : Prop := x.text.length ≤ N
def mvCel (x : Cel) (k : Int) : Cel := ⟨x.text, x.half⟩
def cvCel (x : Cel) : Nat := 0
def okCel (x : Cel) : Prop := True
def mkECelS (x : List Cel) (k : Int) : List Cel := markL mkECel cnECel x k
def cnECelS (x : List Cel) : Nat := cntL cnECel x
def toECelS (x : List Cel) : Nat := totL toECel x
def bdECelS (N : Nat) (x : List Cel) : Prop := bdL bdECel N x
def mkEScr (x : Scr) (k : Int) : Scr := ⟨k, k + 1, markL mkECelS cnECelS x.grid (k + 1 + 1), k + 1 + 1 + (cntL cnECelS x.grid : Nat), k + 1 + 1 + (cntL cnECelS x.grid : Nat) + 1, ((k + 1 + 1 + (cntL cnECelS x.grid : Nat) + 1 + 1) % 3 == 0), mkB x.hold (k + 1 + 1 + (cntL cnECelS x.grid : Nat) + 1 + 1 + 1), markL mkET cnET x.back (k + 1 + 1 + (cntL cnECelS x.grid : Nat) + 1 + 1 + 1 + (x.hold.length : Nat))⟩
def cnEScr (x : Scr) : Nat := 1 + 1 + cntL cnECelS x.grid + 1 + 1 + 1 + x.hold.length + cntL cnET x.back
def toEScr (x : Scr) : Nat := totL toECelS x.grid + x.hold.length + totL toET x.back
def bdEScr (N : Nat) (x : Scr) : Prop := bdL bdECelS N x.grid ∧ x.hold.length ≤ N ∧ bdL bdET N x.back
def mvScr (x : Scr) (k : Int) : Scr := ⟨x.cols, x.rows, markL mkECelS cnECelS x.grid (k), x.row, x.col, x.late, mkB x.hold (k + (cntL cnECelS x.grid : Nat)), markL mkET cnET x.back (k + (cntL cnECelS x.grid : Nat) + (x.hold.length : Nat))⟩
def cvScr (x : Scr) : Nat := cntL cnECelS x.grid + x.hold.length + cntL cnET x.back
def okScr (x : Scr) : Prop := okI x.cols ∧ okI x.rows ∧ okI x.row ∧ okI x.col
def mkEKRd (x : KRd) (k : Int) : KRd := ⟨mkB x.hold (k), ((k + (x.hold.length : Nat)) % 3 == 0)⟩
def cnEKRd (x : KRd) : Nat := x.hold.length + 1
def toEKRd (x : KRd) : Nat := x.hold.length
def bdEKRd (N : Nat) (x : KRd) : Prop := x.hold.length ≤ N
def mvKRd (x : KRd) (k : Int) : KRd := ⟨mkB x.hold (k), x.paste⟩
def cvKRd (x : KRd) : Nat := x.hold.length
def okKRd (x : KRd) : Prop := True
def mkEKey (x : Key) (k : Int) : Key := ⟨k, mkR x.runes (k + 1)⟩
def cnEKey (x : Key) : Nat := 1 + x.runes.length
def toEKey (x : Key) : Nat := x.runes.length
def bdEKey (N : Nat) (x : Key) : Prop := x.runes.length ≤ N
def mvKey (x : Key) (k : Int) : Key := ⟨x.kind, mkR x.runes (k)⟩
def cvKey (x : Key) : Nat := x.runes.length
def okKey (x : Key) : Prop := okI x.kind ∧ (∀ r, r ∈ x.runes → okR r)
def mkESnp (x : Snp) (k : Int) : Snp := ⟨mtxt (k), mtxt (k + 1)⟩
def cnESnp (x : Snp) : Nat := 1 + 1
def toESnp (x : Snp) : Nat := x.left.length + x.right.length
def bdESnp (N : Nat) (x : Snp) : Prop := x.left.length ≤ N ∧ x.right.length ≤ N
def mvSnp (x : Snp) (k : Int) : Snp := ⟨x.left, x.right⟩
def cvSnp (x : Snp) : Nat := 0
def okSnp (x : Snp) : Prop := True
def mkELin (x : Lin) (k : Int) : Lin := ⟨mtxt (k), mtxt (k + 1), mtxt (k + 1 + 1), markL mkESnp cnESnp x.undo (k + 1 + 1 + 1)⟩
def cnELin (x : Lin) : Nat := 1 + 1 + 1 + cntL cnESnp x.undo
def toELin (x : Lin) : Nat := x.left.length + x.right.length + x.kill.length + totL toESnp x.undo
def bdELin (N : Nat) (x : Lin) : Prop := x.left.length ≤ N ∧ x.right.length ≤ N ∧ x.kill.length ≤ N ∧ bdL bdESnp N x.undo
def mvLin (x : Lin) (k : Int) : Lin := ⟨x.left, x.right, x.kill, markL mkESnp cnESnp x.undo (k)⟩
def cvLin (x : Lin) : Nat := cntL cnESnp x.undo
def okLin (x : Lin) : Prop := (∀ y, y ∈ x.undo → okSnp y)
def mkEHis (x : His) (k : Int) : His := ⟨k, markL mkET cnET x.items (k + 1)⟩
def cnEHis (x : His) : Nat := 1 + cntL cnET x.items
def toEHis (x : His) : Nat := totL toET x.items
def bdEHis (N : Nat) (x : His) : Prop := bdL bdET N x.items
def mvHis (x : His) (k : Int) : His := ⟨x.cap, markL mkET cnET x.items (k)⟩
def cvHis (x : His) : Nat := cntL cnET x.items
def okHis (x : His) : Prop := okI x.cap
def mkEBlk (x : Blk) (k : Int) : Blk := ⟨markL mkET cnET x.rows (k), k + (cntL cnET x.rows : Nat), k + (cntL cnET x.rows : Nat) + 1⟩
def cnEBlk (x : Blk) : Nat := cntL cnET x.rows + 1 + 1
def toEBlk (x : Blk) : Nat := totL toET x.rows
def bdEBlk (N : Nat) (x : Blk) : Prop := bdL bdET N x.rows
theorem boEBlk (N : Nat) (x : Blk) (h : toEBlk x ≤ N) : bdEBlk N x := (bdL_of boET _ _ (by simp only [toEBlk] at h; omega))
theorem bmEBlk (N N' : Nat) (x : Blk) (hN : N ≤ N') (h : bdEBlk N x) : bdEBlk N' x := (bdL_mono bmET _ _ _ hN (h))
def mvBlk (x : Blk) (k : Int) : Blk := ⟨markL mkET cnET x.rows (k), x.row, x.col⟩
def cvBlk (x : Blk) : Nat := cntL cnET x.rows
def okBlk (x : Blk) : Prop := okI x.row ∧ okI x.col
theorem ccVBlk (x : Blk) : cvBlk x ≤ 40 * toEBlk x := by
  have := ccLT x.rows
  simp only [cvBlk, toEBlk] at *
  omega
def mkESes (x : Ses) (k : Int) : Ses := ⟨mtxt (k), k + 1, k + 1 + 1, ⟨mtxt (k + 1 + 1 + 1), mtxt (k + 1 + 1 + 1 + 1), mtxt (k + 1 + 1 + 1 + 1 + 1), markL mkESnp cnESnp x.line.undo (k + 1 + 1 + 1 + 1 + 1 + 1)⟩, ⟨mkB x.keys.hold (k + 1 + 1 + 1 + 1 + 1 + 1 + (cntL cnESnp x.line.undo : Nat)), ((k + 1 + 1 + 1 + 1 + 1 + 1 + (cntL cnESnp x.line.undo : Nat) + (x.keys.hold.length : Nat)) % 3 == 0)⟩, ((k + 1 + 1 + 1 + 1 + 1 + 1 + (cntL cnESnp x.line.undo : Nat) + (x.keys.hold.length : Nat) + 1) % 3 == 0), markL mkET cnET x.past (k + 1 + 1 + 1 + 1 + 1 + 1 + (cntL cnESnp x.line.undo : Nat) + (x.keys.hold.length : Nat) + 1 + 1), k + 1 + 1 + 1 + 1 + 1 + 1 + (cntL cnESnp x.line.undo : Nat) + (x.keys.hold.length : Nat) + 1 + 1 + (cntL cnET x.past : Nat), mtxt (k + 1 + 1 + 1 + 1 + 1 + 1 + (cntL cnESnp x.line.undo : Nat) + (x.keys.hold.length : Nat) + 1 + 1 + (cntL cnET x.past : Nat) + 1), ((k + 1 + 1 + 1 + 1 + 1 + 1 + (cntL cnESnp x.line.undo : Nat) + (x.keys.hold.length : Nat) + 1 + 1 + (cntL cnET x.past : Nat) + 1 + 1) % 3 == 0), markL mkET cnET x.queue (k + 1 + 1 + 1 + 1 + 1 + 1 + (cntL cnESnp x.line.undo : Nat) + (x.keys.hold.length : Nat) + 1 + 1 + (cntL cnET x.past : Nat) + 1 + 1 + 1), markL mkET cnET x.log (k + 1 + 1 + 1 + 1 + 1 + 1 + (cntL cnESnp x.line.undo : Nat) + (x.keys.hold.length : Nat) + 1 + 1 + (cntL cnET x.past : Nat) + 1 + 1 + 1 + (cntL cnET x.queue : Nat)), markL mkET cnET x.done (k + 1 + 1 + 1 + 1 + 1 + 1 + (cntL cnESnp x.line.undo : Nat) + (x.keys.hold.length : Nat) + 1 + 1 + (cntL cnET x.past : Nat) + 1 + 1 + 1 + (cntL cnET x.queue : Nat) + (cntL cnET x.log : Nat))⟩
def cnESes (x : Ses) : Nat := 1 + 1 + 1 + 1 + 1 + 1 + cntL cnESnp x.line.undo + x.keys.hold.length + 1 + 1 + cntL cnET x.past + 1 + 1 + 1 + cntL cnET x.queue + cntL cnET x.log + cntL cnET x.done
def toESes (x : Ses) : Nat := x.prompt.length + x.line.left.length + x.line.right.length + x.line.kill.length + totL toESnp x.line.undo + x.keys.hold.length + totL toET x.past + x.draft.length + totL toET x.queue + totL toET x.log + totL toET x.done
def bdESes (N : Nat) (x : Ses) : Prop := x.prompt.length ≤ N ∧ x.line.left.length ≤ N ∧ x.line.right.length ≤ N ∧ x.line.kill.length ≤ N ∧ bdL bdESnp N x.line.undo ∧ x.keys.hold.length ≤ N ∧ bdL bdET N x.past ∧ x.draft.length ≤ N ∧ bdL bdET N x.queue ∧ bdL bdET N x.log ∧ bdL bdET N x.done
def mvSes (x : Ses) (k : Int) : Ses := ⟨x.prompt, x.cols, x.rows, mvLin x.line (k), mvKRd x.keys (k + (cvLin x.line : Nat)), x.nav, markL mkET cnET x.past (k + (cvLin x.line : Nat) + (cvKRd x.keys : Nat)), x.at_, x.draft, x.stopped, markL mkET cnET x.queue (k + (cvLin x.line : Nat) + (cvKRd x.keys : Nat) + (cntL cnET x.past : Nat)), markL mkET cnET x.log (k + (cvLin x.line : Nat) + (cvKRd x.keys : Nat) + (cntL cnET x.past : Nat) + (cntL cnET x.queue : Nat)), markL mkET cnET x.done (k + (cvLin x.line : Nat) + (cvKRd x.keys : Nat) + (cntL cnET x.past : Nat) + (cntL cnET x.queue : Nat) + (cntL cnET x.log : Nat))⟩
def cvSes (x : Ses) : Nat := cvLin x.line + cvKRd x.keys + cntL cnET x.past + cntL cnET x.queue + cntL cnET x.log + cntL cnET x.done
def okSes (x : Ses) : Prop := okI x.cols ∧ okI x.rows ∧ okLin x.line ∧ okKRd x.keys ∧ okI x.at_
def mkEWld (x : Wld) (k : Int) : Wld := ⟨⟨k, markL mkET cnET x.hist.items (k + 1)⟩, markL mkESes cnESes x.sessions (k + 1 + (cntL cnET x.hist.items : Nat)), markL mkEScr cnEScr x.screens (k + 1 + (cntL cnET x.hist.items : Nat) + (cntL cnESes x.sessions : Nat))⟩
def cnEWld (x : Wld) : Nat := 1 + cntL cnET x.hist.items + cntL cnESes x.sessions + cntL cnEScr x.screens
def toEWld (x : Wld) : Nat := totL toET x.hist.items + totL toESes x.sessions + totL toEScr x.screens
def bdEWld (N : Nat) (x : Wld) : Prop := bdL bdET N x.hist.items ∧ bdL bdESes N x.sessions ∧ bdL bdEScr N x.screens
def mvWld (x : Wld) (k : Int) : Wld := ⟨mvHis x.hist (k), markL mkESes cnESes x.sessions (k + (cvHis x.hist : Nat)), markL mkEScr cnEScr x.screens (k + (cvHis x.hist : Nat) + (cntL cnESes x.sessions : Nat))⟩
def cvWld (x : Wld) : Nat := cvHis x.hist + cntL cnESes x.sessions + cntL cnEScr x.screens
def okWld (x : Wld) : Prop := okHis x.hist ∧ (∀ y, y ∈ x.sessions → okSes y) ∧ (∀ y, y ∈ x.screens → okScr y)
end Go.AW
/- The argument types of the laws, read as lists. -/
set_option linter.unusedVariables false
namespace Go.AW
open Go.Proofs
set_option maxRecDepth 100000
theorem rd_i : Rd Tryd.prog 3 okI (fun n => [.s (.int .i64 n)]) := rd_i64' Tryd.underlying3
theorem rd_t : Rd Tryd.prog 9 (fun s : Str => s.length ≤ 140737488355328) (fun s => [.s (.string (std.strB s))]) := rd_str Tryd.underlying9
theorem rdLT : Rd Tryd.prog 22 (fun l : List (Str) => l.length ≤ 140737488355328 ∧ ∀ x, x ∈ l → x.length ≤ 140737488355328) (fun l => [lT std uid l]) := rd_list (sz := 1) (by' := 16) Tryd.underlying22 (by kernel_rfl) (by decide) (by kernel_rfl) (by decide) ([] : Str) (mk := rT std uid) (fun _ => rfl) rd_t
theorem rdBlk : Rd Tryd.prog 24 (fun x : Blk => bdEBlk 140737488355328 x ∧ okBlk x) (rBlk std uid) :=
  rd_as (rd_struct (tot := 3) Tryd.underlying24 (by kernel_rfl) (rdF_cons (c := 1) rfl (by kernel_rfl) (by decide) rdLT (rdF_cons (c := 1) rfl (by kernel_rfl) (by decide) rd_i (rdF_cons (c := 1) rfl (by kernel_rfl) (by decide) rd_i rdF_nil)))) (fun x => ⟨x.1, x.2.1, x.2.2.1⟩) (fun x h => ⟨h.1, ⟨h.2.1, h.2.2.1⟩⟩) fun _ => rfl
end Go.AW
/- Bytes, runes, numbers: sizes, copies, alike, marked, held. -/
set_option linter.unusedVariables false
set_option linter.unusedSimpArgs false
namespace Go.AW
open Go.Proofs
set_option maxRecDepth 100000
theorem x_eqByteS (a : Str) (hn : a.length ≤ 1000000000) : PX Tryd.prog 13 (fun D u => [.r (.c (lB D u (u _ a))), .r (.c (lB D u (u _ a)))]) (fun D u => [RB true]) (fun D u => []) := by
  refine px_of_awp (fn := Tryd.f13) (c := bodyOf Tryd.f13) envOk (by kernel_rfl) (by kernel_rfl) (by kernel_rfl) (by kernel_rfl) rfl (by kernel_rfl) (by kernel_rfl) ?_
  intro w0 mine D u C L hD hu hC hL
  ((try conv => cbv); (repeat' (first | with_reducible exact mK hD | (with_reducible first | refine mS hD ?_ | refine mJ hL ?_ | refine mT hD ?_ | refine mF hD ?_ | refine mB hD (fun _ => ?_) (fun _ => ?_) | exact True.intro | refine And.intro ?_ ?_) <;> try conv => cbv)); all_goals try exact fx)
  refine loop_st hL a.length (fun k (s : Unit) => True) () (fun k s => [(5, VI (u _ k))]) (fun k s => []) trivial ?_ ?_
  · ((try conv => cbv); (repeat' (first | with_reducible exact mK hD | (with_reducible first | refine mS hD ?_ | refine mJ hL ?_ | refine mT hD ?_ | refine mF hD ?_ | refine mB hD (fun _ => ?_) (fun _ => ?_) | exact True.intro | refine And.intro ?_ ?_) <;> try conv => cbv)); all_goals try exact fx)
  · intro k s hk hs
    ((try conv => cbv); (repeat' (first | with_reducible exact mK hD | (with_reducible first | refine mS hD ?_ | refine mJ hL ?_ | refine mT hD ?_ | refine mF hD ?_ | refine mB hD (fun _ => ?_) (fun _ => ?_) | exact True.intro | refine And.intro ?_ ?_) <;> try conv => cbv)); all_goals try exact fx)
    · (have hkn : k + 1 ≤ a.length := lo; refine ⟨k + 1, (), hkn, ?_, ssem_of ?_, by omega⟩)
      · trivial
      · ((try conv => cbv); (repeat' (first | with_reducible exact mK hD | (with_reducible first | refine mS hD ?_ | refine mJ hL ?_ | refine mT hD ?_ | refine mF hD ?_ | refine mB hD (fun _ => ?_) (fun _ => ?_) | exact True.intro | refine And.intro ?_ ?_) <;> try conv => cbv)); all_goals try exact fx)
theorem x_markByteS (a : Str) (m r : Int) (h : 0 ≤ m ∧ m + a.length ≤ 1000000000000000000) (hn : a.length ≤ 1000000000) (hr : r = m + a.length) : PX Tryd.prog 16 (fun D u => [.o (.c (lB D u (u _ a))), AI (u _ m)]) (fun D u => [RI (u _ r)]) (fun D u => [.c (lB D u (u _ (mkB a m)))]) := by
  refine px_of_awp (fn := Tryd.f16) (c := bodyOf Tryd.f16) envOk (by kernel_rfl) (by kernel_rfl) (by kernel_rfl) (by kernel_rfl) rfl (by kernel_rfl) (by kernel_rfl) ?_
  intro w0 mine D u C L hD hu hC hL
  have hl := mkB_len a m
  ((try conv => cbv); (repeat' (first | with_reducible exact mK hD | (with_reducible first | refine mS hD ?_ | refine mJ hL ?_ | refine mT hD ?_ | refine mF hD ?_ | refine mB hD (fun _ => ?_) (fun _ => ?_) | exact True.intro | refine And.intro ?_ ?_) <;> try conv => cbv)); all_goals try exact fx)
  refine loop_st hL a.length (fun k s => s = (mkB a m).take k ++ a.drop k) _ (fun k s => [(5, VI (u _ k)), (1, VI (u _ (m + k)))]) (fun k s => [(0, oB D u (u _ s))]) rfl ?_ ?_
  · ((try conv => cbv); (repeat' (first | with_reducible exact mK hD | (with_reducible first | refine mS hD ?_ | refine mJ hL ?_ | refine mT hD ?_ | refine mF hD ?_ | refine mB hD (fun _ => ?_) (fun _ => ?_) | exact True.intro | refine And.intro ?_ ?_) <;> try conv => cbv)); all_goals try exact fx)
  · intro k s hk hs
    subst hs
    ((try conv => cbv); (repeat' (first | with_reducible exact mK hD | (with_reducible first | refine mS hD ?_ | refine mJ hL ?_ | refine mT hD ?_ | refine mF hD ?_ | refine mB hD (fun _ => ?_) (fun _ => ?_) | exact True.intro | refine And.intro ?_ ?_) <;> try conv => cbv)); all_goals try exact fx)
    · (have hkn : k + 1 ≤ a.length := lo; refine ⟨k + 1, ((mkB a m).take (k + 1) ++ a.drop (k + 1)), hkn, ?_, ssem_of ?_, by omega⟩)
      · rfl
      · ((try conv => cbv); (repeat' (first | with_reducible exact mK hD | (with_reducible first | refine mS hD ?_ | refine mJ hL ?_ | refine mT hD ?_ | refine mF hD ?_ | refine mB hD (fun _ => ?_) (fun _ => ?_) | exact True.intro | refine And.intro ?_ ?_) <;> try conv => cbv)); all_goals try exact fx)
        (subst hD hu; apply qB; (focus (apply LR.set; (first | exact LR.refl | (apply LR.rfl'; simp only [uid, std, S0]; omega)); apply aLe_1; apply u8_deq; simp only [uid, std, wu8]; omega)); all_goals try simp only [uid, std, Int.toNat_natCast, Int.ofNat_eq_natCast])
        have := set_over (mkB a m) a 0 k hkn hl
        rw [mkB_get a m k hkn] at this
        exact this
    · have e : k = a.length := lo
      subst e
      (subst hD hu; apply qB; (focus repeat' (first | exact LR.refl | exact LR_bytes | apply mClu | apply mCel | apply mKey | apply mSnp | apply mKRd | apply mLin | apply mHis | apply mBlk | apply mScr | apply mSes | exact zR | exact zB | exact zT | exact zN | exact zClu | exact zCel | exact zCelS | exact zSnp | exact zKey | exact zSes | exact zScr | apply LR.deq | exact LR.nil | apply LR.one | apply LR.rep | apply LR.cat | apply LR.cat' | apply LR.set | exact u8_0 | exact DEq.s _ | (apply str_deq; (repeat' apply sr_cat) <;> rfl) | apply aLe_1 | (apply LR.rfl'; simp only [uid, std, S0]; omega))); all_goals try simp only [uid, std, Int.toNat_natCast, Int.ofNat_eq_natCast])
      exact over_all (mkB a m) a hl
theorem x_heldByteS (a : Str) (m r : Int) (h : 0 ≤ m ∧ m + a.length ≤ 1000000000000000000) (hn : a.length ≤ 1000000000) (hr : r = m + a.length) : PX Tryd.prog 17 (fun D u => [.r (.c (lB D u (u _ (mkB a m)))), AI (u _ m)]) (fun D u => [RI (u _ r)]) (fun D u => []) := by
  refine px_of_awp (fn := Tryd.f17) (c := bodyOf Tryd.f17) envOk (by kernel_rfl) (by kernel_rfl) (by kernel_rfl) (by kernel_rfl) rfl (by kernel_rfl) (by kernel_rfl) ?_
  intro w0 mine D u C L hD hu hC hL
  have hl := mkB_len a m
  ((try conv => cbv); (repeat' (first | with_reducible exact mK hD | (with_reducible first | refine mS hD ?_ | refine mJ hL ?_ | refine mT hD ?_ | refine mF hD ?_ | refine mB hD (fun _ => ?_) (fun _ => ?_) | exact True.intro | refine And.intro ?_ ?_) <;> try conv => cbv)); all_goals try exact fx)
  refine loop_st hL a.length (fun k (s : Unit) => True) () (fun k s => [(5, VI (u _ k)), (1, VI (u _ (m + k)))]) (fun k s => []) trivial ?_ ?_
  · ((try conv => cbv); (repeat' (first | with_reducible exact mK hD | (with_reducible first | refine mS hD ?_ | refine mJ hL ?_ | refine mT hD ?_ | refine mF hD ?_ | refine mB hD (fun _ => ?_) (fun _ => ?_) | exact True.intro | refine And.intro ?_ ?_) <;> try conv => cbv)); all_goals try exact fx)
  · intro k s hk hs
    have hg := mkB_get a m k
    ((try conv => cbv); (repeat' (first | with_reducible exact mK hD | (with_reducible first | refine mS hD ?_ | refine mJ hL ?_ | refine mT hD ?_ | refine mF hD ?_ | refine mB hD (fun _ => ?_) (fun _ => ?_) | exact True.intro | refine And.intro ?_ ?_) <;> try conv => cbv)); all_goals try exact fx)
    all_goals try (exfalso; (have hkn : k < a.length := by ((try subst hD hu); (try simp only [nc] at *); (try simp only [Int.ofNat_eq_natCast] at *); try simp (disch := omega) only [std, uid, S0] at *); omega); have hg := hg hkn; ((try subst hD hu); (try simp only [nc] at *); (try simp only [Int.ofNat_eq_natCast] at *); try simp (disch := omega) only [std, uid, S0] at *); (rename_i hc; apply hc; rw [hg]; exact u8_wrap _); done)
    (have hkn : k + 1 ≤ a.length := lo; refine ⟨k + 1, (), hkn, ?_, ssem_of ?_, by omega⟩)
    · trivial
    · ((try conv => cbv); (repeat' (first | with_reducible exact mK hD | (with_reducible first | refine mS hD ?_ | refine mJ hL ?_ | refine mT hD ?_ | refine mF hD ?_ | refine mB hD (fun _ => ?_) (fun _ => ?_) | exact True.intro | refine And.intro ?_ ?_) <;> try conv => cbv)); all_goals try exact fx)
theorem x_markText (k : Int) (hk : k ≤ 1000000000000000000) : PX Tryd.prog 63 (fun D u => [AI (u _ k)]) (fun D u => [.c (.s (.string (D.strB (u _ (mtxt k)))))]) (fun D u => []) := by
  refine px_of_awp (fn := Tryd.f63) (c := bodyOf Tryd.f63) envOk (by kernel_rfl) (by kernel_rfl) (by kernel_rfl) (by kernel_rfl) rfl (by kernel_rfl) (by kernel_rfl) ?_
  intro w0 mine D u C L hD hu hC hL
  ((try conv => cbv); (repeat' (first | with_reducible exact mK hD | (with_reducible first | refine mS hD ?_ | refine mJ hL ?_ | refine mT hD ?_ | refine mF hD ?_ | refine mB hD (fun _ => ?_) (fun _ => ?_) | exact True.intro | refine And.intro ?_ ?_) <;> try conv => cbv)); all_goals try exact fx)
  · ((try subst hD hu); (try simp only [nc] at *); (try simp only [Int.ofNat_eq_natCast] at *); try simp (disch := omega) only [std, uid, S0] at *)
    rw [mtxt, if_pos (by omega)]
  refine loop_mu hL (MtI k) (fun s => s.1.toNat) (k, []) (fun s => [(0, VI (u _ (s.1))), (3, .one (.lf (.s (.string (D.strB (u _ (s.2)))))))]) (fun s => []) ?_ ?_ ?_
  · exact ⟨by ((try subst hD hu); (try simp only [nc] at *); (try simp only [Int.ofNat_eq_natCast] at *); try simp (disch := omega) only [std, uid, S0] at *); omega, by simp, by simp, rfl⟩
  · ((try conv => cbv); (repeat' (first | with_reducible exact mK hD | (with_reducible first | refine mS hD ?_ | refine mJ hL ?_ | refine mT hD ?_ | refine mF hD ?_ | refine mB hD (fun _ => ?_) (fun _ => ?_) | exact True.intro | refine And.intro ?_ ?_) <;> try conv => cbv)); all_goals try exact fx)
  · intro s hs
    have h1 := hs.h1
    have h2 := hs.h2
    have h3 := hs.h3
    have hX : 0 < s.1 → IntKind.wrap .u8 (48 + s.1 % 10) = 48 + s.1 % 10 := fun _ => by rw [wu8]; omega
    ((try conv => cbv); (repeat' (first | with_reducible exact mK hD | (with_reducible first | refine mS hD ?_ | refine mJ hL ?_ | refine mT hD ?_ | refine mF hD ?_ | refine mB hD (fun _ => ?_) (fun _ => ?_) | exact True.intro | refine And.intro ?_ ?_) <;> try conv => cbv)); all_goals try exact fx)
    · ((try subst hD hu); (try simp only [nc] at *); (try simp only [Int.ofNat_eq_natCast] at *); try simp (disch := omega) only [std, uid, S0] at *)
      simp
      omega
    · have hp : 0 < s.1 := lo
      have hX := hX hp
      refine ⟨(s.1 / 10, UInt8.ofNat (48 + s.1 % 10).toNat :: s.2), ⟨by simp only; omega, by simp only; omega, by simp only [List.length_cons]; omega, ?_⟩, ssem_of ?_, by simp only; omega⟩
      · rw [← hs.h4]; exact (decT_step s.1 s.2 hp).symm
      · ((try conv => cbv); (repeat' (first | with_reducible exact mK hD | (with_reducible first | refine mS hD ?_ | refine mJ hL ?_ | refine mT hD ?_ | refine mF hD ?_ | refine mB hD (fun _ => ?_) (fun _ => ?_) | exact True.intro | refine And.intro ?_ ?_) <;> try conv => cbv)); all_goals try exact fx)
        have hs3 := sr_strF (LR.one (f := fun _ => [DV.s (.int .u8 (48 + s.1 % 10))]) (d := 0) (x := UInt8.ofNat (48 + s.1 % 10).toNat) ⟨u8_deq (by omega), trivial⟩)
        ((try subst hD hu); (try simp only [nc] at *); (try simp only [Int.ofNat_eq_natCast] at *); try simp (disch := omega) only [std, uid, S0, hX] at *)
        rw [hs3]
        rfl
    · have e : s.1 = 0 := lo
      have h4 := hs.h4
      ((try subst hD hu); (try simp only [nc] at *); (try simp only [Int.ofNat_eq_natCast] at *); try simp (disch := omega) only [std, uid, S0] at *)
      rw [mtxt, if_neg (by omega), ← h4, e]
      rfl
end Go.AW
/- Texts. -/
set_option linter.unusedVariables false
set_option linter.unusedSimpArgs false
namespace Go.AW
open Go.Proofs
set_option maxRecDepth 100000
theorem x_szStringS (a : List (Str)) (left r : Int) (h : -1 ≤ left ∧ left ≤ 1048576) (hn : bdL bdET 140737488355328 a) (hr : r = if left - totL toET a < 0 then -1 else left - totL toET a) : PX Tryd.prog 45 (fun D u => [.r (.c (lT D u (u _ a))), AI (u _ left)]) (fun D u => [RI (u _ r)]) (fun D u => []) := by
  refine px_of_awp (fn := Tryd.f45) (c := bodyOf Tryd.f45) envOk (by kernel_rfl) (by kernel_rfl) (by kernel_rfl) (by kernel_rfl) rfl (by kernel_rfl) (by kernel_rfl) ?_
  intro w0 mine D u C L hD hu hC hL
  obtain ⟨hn1, hn2⟩ := hn
  have ht : totL toET a = a.length + cntL toET a := rfl
  have h0 := cntL_0 toET a
  ((try conv => cbv); (repeat' (first | with_reducible exact mK hD | (with_reducible first | refine mS hD ?_ | refine mJ hL ?_ | refine mT hD ?_ | refine mF hD ?_ | refine mB hD (fun _ => ?_) (fun _ => ?_) | exact True.intro | refine And.intro ?_ ?_) <;> try conv => cbv)); all_goals try exact fx)
  refine loop_st hL a.length (fun k (_ : Unit) => 0 ≤ left - a.length - cntL toET (a.take k)) () (fun k s => [(5, VI (u _ k)), (1, VI (u _ (left - a.length - cntL toET (a.take k))))]) (fun k s => []) ?_ ?_ ?_
  · ((try subst hD hu); (try simp only [nc] at *); (try simp only [Int.ofNat_eq_natCast] at *); try simp (disch := omega) only [std, uid, S0] at *); omega
  · ((try conv => cbv); (repeat' (first | with_reducible exact mK hD | (with_reducible first | refine mS hD ?_ | refine mJ hL ?_ | refine mT hD ?_ | refine mF hD ?_ | refine mB hD (fun _ => ?_) (fun _ => ?_) | exact True.intro | refine And.intro ?_ ?_) <;> try conv => cbv)); all_goals try exact fx)
  · intro k s hk hi
    have hc := cntL_le toET a k
    have hcs : k < a.length → cntL toET (a.take (k + 1)) = cntL toET (a.take k) + toET (a.getD k []) := cntL_snoc toET a [] k
    have hca := cntL_all toET a
    have hc1 := cntL_le toET a (k + 1)
    have hxs : k < a.length → bdET 140737488355328 (a.getD k []) := fun h => hn2 _ (getD_mem a [] k h)
    ((try conv => cbv); (repeat' (first | with_reducible exact mK hD | (with_reducible first | refine mS hD ?_ | refine mJ hL ?_ | refine mT hD ?_ | refine mF hD ?_ | refine mB hD (fun _ => ?_) (fun _ => ?_) | exact True.intro | refine And.intro ?_ ?_) <;> try conv => cbv)); all_goals try exact fx)
    all_goals try (have hkn : k < a.length := by ((try subst hD hu); (try simp only [nc] at *); (try simp only [Int.ofNat_eq_natCast] at *); try simp (disch := omega) only [std, uid, S0] at *); omega)
    all_goals try (have hcs := hcs hkn; have hxs := hxs hkn; simp only [bdET, toET] at hcs hxs)
    · ((try subst hD hu); (try simp only [nc] at *); (try simp only [Int.ofNat_eq_natCast] at *); try simp (disch := omega) only [std, uid, S0] at *)
      omega
    · (have hkn : k + 1 ≤ a.length := lo; refine ⟨k + 1, (), hkn, ?_, ssem_of ?_, by omega⟩)
      · ((try subst hD hu); (try simp only [nc] at *); (try simp only [Int.ofNat_eq_natCast] at *); try simp (disch := omega) only [std, uid, S0] at *)
        omega
      · ((try conv => cbv); (repeat' (first | with_reducible exact mK hD | (with_reducible first | refine mS hD ?_ | refine mJ hL ?_ | refine mT hD ?_ | refine mF hD ?_ | refine mB hD (fun _ => ?_) (fun _ => ?_) | exact True.intro | refine And.intro ?_ ?_) <;> try conv => cbv)); all_goals try exact fx)
    · have e : k = a.length := lo
      subst e
      ((try subst hD hu); (try simp only [nc] at *); (try simp only [Int.ofNat_eq_natCast] at *); try simp (disch := omega) only [std, uid, S0] at *)
      omega
theorem x_toStringS (a : List (Str)) (hn : bdL bdET 1000000000 a) : PX Tryd.prog 48 (fun D u => [.r (.c (lT D u (u _ a)))]) (fun D u => [.c (lT D u (u _ a))]) (fun D u => []) := by
  refine px_of_awp (fn := Tryd.f48) (c := bodyOf Tryd.f48) envOk (by kernel_rfl) (by kernel_rfl) (by kernel_rfl) (by kernel_rfl) rfl (by kernel_rfl) (by kernel_rfl) ?_
  intro w0 mine D u C L hD hu hC hL
  obtain ⟨hn1, hn2⟩ := hn
  ((try conv => cbv); (repeat' (first | with_reducible exact mK hD | (with_reducible first | refine mS hD ?_ | refine mJ hL ?_ | refine mT hD ?_ | refine mF hD ?_ | refine mB hD (fun _ => ?_) (fun _ => ?_) | exact True.intro | refine And.intro ?_ ?_) <;> try conv => cbv)); all_goals try exact fx)
  refine loop_st hL a.length (fun k s => s = a.take k ++ List.replicate (a.length - k) []) _ (fun k s => [(4, VI (u _ k)), (3, vO D 0 (u _ s))]) (fun k s => [(0, oT D u (u _ s))]) rfl ?_ ?_
  · ((try conv => cbv); (repeat' (first | with_reducible exact mK hD | (with_reducible first | refine mS hD ?_ | refine mJ hL ?_ | refine mT hD ?_ | refine mF hD ?_ | refine mB hD (fun _ => ?_) (fun _ => ?_) | exact True.intro | refine And.intro ?_ ?_) <;> try conv => cbv)); all_goals try exact fx)
    all_goals ((subst hD hu; apply qT; (focus repeat' (first | exact LR.refl | exact LR_bytes | apply mClu | apply mCel | apply mKey | apply mSnp | apply mKRd | apply mLin | apply mHis | apply mBlk | apply mScr | apply mSes | exact zR | exact zB | exact zT | exact zN | exact zClu | exact zCel | exact zCelS | exact zSnp | exact zKey | exact zSes | exact zScr | apply LR.deq | exact LR.nil | apply LR.one | apply LR.rep | apply LR.cat | apply LR.cat' | apply LR.set | exact u8_0 | exact DEq.s _ | (apply str_deq; (repeat' apply sr_cat) <;> rfl) | apply aLe_1 | (apply LR.rfl'; simp only [uid, std, S0]; omega))); all_goals try simp only [uid, std, Int.toNat_natCast, Int.ofNat_eq_natCast]); exact fill_0 a [])
  · intro k s hk hs
    subst hs
    ((try conv => cbv); (repeat' (first | with_reducible exact mK hD | (with_reducible first | refine mS hD ?_ | refine mJ hL ?_ | refine mT hD ?_ | refine mF hD ?_ | refine mB hD (fun _ => ?_) (fun _ => ?_) | exact True.intro | refine And.intro ?_ ?_) <;> try conv => cbv)); all_goals try exact fx)
    · have hkn : k < a.length := lo
      have hx := hn2 _ (getD_mem a [] k hkn)
      (have hkn : k + 1 ≤ a.length := lo; refine ⟨k + 1, (a.take (k + 1) ++ List.replicate (a.length - (k + 1)) []), hkn, ?_, ssem_of ?_, by omega⟩)
      · rfl
      · ((try conv => cbv); (repeat' (first | with_reducible exact mK hD | (with_reducible first | refine mS hD ?_ | refine mJ hL ?_ | refine mT hD ?_ | refine mF hD ?_ | refine mB hD (fun _ => ?_) (fun _ => ?_) | exact True.intro | refine And.intro ?_ ?_) <;> try conv => cbv)); all_goals try exact fx)
        (subst hD hu; apply qT; (focus repeat' (first | exact LR.refl | exact LR_bytes | apply mClu | apply mCel | apply mKey | apply mSnp | apply mKRd | apply mLin | apply mHis | apply mBlk | apply mScr | apply mSes | exact zR | exact zB | exact zT | exact zN | exact zClu | exact zCel | exact zCelS | exact zSnp | exact zKey | exact zSes | exact zScr | apply LR.deq | exact LR.nil | apply LR.one | apply LR.rep | apply LR.cat | apply LR.cat' | apply LR.set | exact u8_0 | exact DEq.s _ | (apply str_deq; (repeat' apply sr_cat) <;> rfl) | apply aLe_1 | (apply LR.rfl'; simp only [uid, std, S0]; omega))); all_goals try simp only [uid, std, Int.toNat_natCast, Int.ofNat_eq_natCast])
        exact set_fill a [] k hkn
    · have e : k = a.length := lo
      subst e
      (subst hD hu; apply qT; (focus repeat' (first | exact LR.refl | exact LR_bytes | apply mClu | apply mCel | apply mKey | apply mSnp | apply mKRd | apply mLin | apply mHis | apply mBlk | apply mScr | apply mSes | exact zR | exact zB | exact zT | exact zN | exact zClu | exact zCel | exact zCelS | exact zSnp | exact zKey | exact zSes | exact zScr | apply LR.deq | exact LR.nil | apply LR.one | apply LR.rep | apply LR.cat | apply LR.cat' | apply LR.set | exact u8_0 | exact DEq.s _ | (apply str_deq; (repeat' apply sr_cat) <;> rfl) | apply aLe_1 | (apply LR.rfl'; simp only [uid, std, S0]; omega))); all_goals try simp only [uid, std, Int.toNat_natCast, Int.ofNat_eq_natCast])
      exact fill_all a []
theorem x_eqStringS (a : List (Str)) (hn : bdL bdET 1000000000 a) : PX Tryd.prog 26 (fun D u => [.r (.c (lT D u (u _ a))), .r (.c (lT D u (u _ a)))]) (fun D u => [RB true]) (fun D u => []) := by
  refine px_of_awp (fn := Tryd.f26) (c := bodyOf Tryd.f26) envOk (by kernel_rfl) (by kernel_rfl) (by kernel_rfl) (by kernel_rfl) rfl (by kernel_rfl) (by kernel_rfl) ?_
  intro w0 mine D u C L hD hu hC hL
  obtain ⟨hn1, hn2⟩ := hn
  ((try conv => cbv); (repeat' (first | with_reducible exact mK hD | (with_reducible first | refine mS hD ?_ | refine mJ hL ?_ | refine mT hD ?_ | refine mF hD ?_ | refine mB hD (fun _ => ?_) (fun _ => ?_) | exact True.intro | refine And.intro ?_ ?_) <;> try conv => cbv)); all_goals try exact fx)
  refine loop_st hL a.length (fun k (s : Unit) => True) () (fun k s => [(5, VI (u _ k))]) (fun k s => []) trivial ?_ ?_
  · ((try conv => cbv); (repeat' (first | with_reducible exact mK hD | (with_reducible first | refine mS hD ?_ | refine mJ hL ?_ | refine mT hD ?_ | refine mF hD ?_ | refine mB hD (fun _ => ?_) (fun _ => ?_) | exact True.intro | refine And.intro ?_ ?_) <;> try conv => cbv)); all_goals try exact fx)
  · intro k s hk hs
    ((try conv => cbv); (repeat' (first | with_reducible exact mK hD | (with_reducible first | refine mS hD ?_ | refine mJ hL ?_ | refine mT hD ?_ | refine mF hD ?_ | refine mB hD (fun _ => ?_) (fun _ => ?_) | exact True.intro | refine And.intro ?_ ?_) <;> try conv => cbv)); all_goals try exact fx)
    (have hkn : k + 1 ≤ a.length := lo; refine ⟨k + 1, (), hkn, ?_, ssem_of ?_, by omega⟩)
    · trivial
    · ((try conv => cbv); (repeat' (first | with_reducible exact mK hD | (with_reducible first | refine mS hD ?_ | refine mJ hL ?_ | refine mT hD ?_ | refine mF hD ?_ | refine mB hD (fun _ => ?_) (fun _ => ?_) | exact True.intro | refine And.intro ?_ ?_) <;> try conv => cbv)); all_goals try exact fx)
set_option maxHeartbeats 1000000 in
theorem x_markStringS (a : List (Str)) (m r : Int) (h : 0 ≤ m ∧ m + cntL cnET a ≤ 1000000000000000000) (hn : bdL bdET 1000000000 a) (hr : r = m + cntL cnET a) : PX Tryd.prog 29 (fun D u => [.o (.c (lT D u (u _ a))), AI (u _ m)]) (fun D u => [RI (u _ r)]) (fun D u => [.c (lT D u (u _ (markL mkET cnET a m)))]) := by
  refine px_of_awp (fn := Tryd.f29) (c := bodyOf Tryd.f29) envOk (by kernel_rfl) (by kernel_rfl) (by kernel_rfl) (by kernel_rfl) rfl (by kernel_rfl) (by kernel_rfl) ?_
  intro w0 mine D u C L hD hu hC hL
  obtain ⟨hn1, hn2⟩ := hn
  (have hset := hsA hD; have hset3 := hsB hD; have hset2 := hset; (conv at hset2 => enter [f, a, row, 1]; whnf); (conv at hset3 => enter [f, a, row, row', 1]; whnf; enter [1]; whnf); (conv at hset3 => enter [f, a, row, row', 2]; whnf))
  have hl := markL_len mkET cnET a m
  have h0 := cntL_0 cnET a
  have hca := cntL_all cnET a
  ((try conv => cbv); (repeat' (first | with_reducible exact mK hD | (with_reducible first | refine mS hD ?_ | refine mJ hL ?_ | refine mT hD ?_ | refine mF hD ?_ | refine mB hD (fun _ => ?_) (fun _ => ?_) | exact True.intro | refine And.intro ?_ ?_) <;> try conv => cbv)); all_goals try exact fx)
  refine loop_st hL a.length (fun k s => s = (markL mkET cnET a m).take k ++ a.drop k) _ (fun k s => [(5, VI (u _ k)), (1, VI (u _ (m + cntL cnET (a.take k))))]) (fun k s => [(0, oT D u (u _ s))]) rfl ?_ ?_
  · ((try conv => cbv); (repeat' (first | with_reducible exact mK hD | (with_reducible first | refine mS hD ?_ | refine mJ hL ?_ | refine mT hD ?_ | refine mF hD ?_ | refine mB hD (fun _ => ?_) (fun _ => ?_) | exact True.intro | refine And.intro ?_ ?_) <;> try conv => cbv)); all_goals try exact fx)
  · intro k s hk hs
    subst hs
    have hc := cntL_le cnET a k
    ((try conv => cbv); (repeat' (first | with_reducible exact mK hD | (with_reducible first | refine mS hD ?_ | refine mJ hL ?_ | refine mT hD ?_ | refine mF hD ?_ | refine mB hD (fun _ => ?_) (fun _ => ?_) | exact True.intro | refine And.intro ?_ ?_) <;> try conv => cbv)); all_goals try exact fx)
    repeat' (simp only [hset2, hset3, hset, rowN]; ((try conv => cbv); (repeat' (first | with_reducible exact mK hD | (with_reducible first | refine mS hD ?_ | refine mJ hL ?_ | refine mT hD ?_ | refine mF hD ?_ | refine mB hD (fun _ => ?_) (fun _ => ?_) | exact True.intro | refine And.intro ?_ ?_) <;> try conv => cbv)); all_goals try exact fx))
    all_goals try (have e : k = a.length := lo; subst e; first | (((try subst hD hu); (try simp only [nc] at *); (try simp only [Int.ofNat_eq_natCast] at *); try simp (disch := omega) only [std, uid, S0] at *); omega; done) | ((subst hD hu; apply qT; (focus repeat' (first | exact LR.refl | exact LR_bytes | apply mClu | apply mCel | apply mKey | apply mSnp | apply mKRd | apply mLin | apply mHis | apply mBlk | apply mScr | apply mSes | exact zR | exact zB | exact zT | exact zN | exact zClu | exact zCel | exact zCelS | exact zSnp | exact zKey | exact zSes | exact zScr | apply LR.deq | exact LR.nil | apply LR.one | apply LR.rep | apply LR.cat | apply LR.cat' | apply LR.set | exact u8_0 | exact DEq.s _ | (apply str_deq; (repeat' apply sr_cat) <;> rfl) | apply aLe_1 | (apply LR.rfl'; simp only [uid, std, S0]; omega))); all_goals try simp only [uid, std, Int.toNat_natCast, Int.ofNat_eq_natCast]); exact over_all _ a hl))
    · have hkn : k < a.length := lo
      have hg := over_get (markL mkET cnET a m) a [] k hkn hl
      have hq := markL_get mkET cnET [] a m k hkn
      have hcs := cntL_snoc cnET a [] k hkn
      have hc2 := cntL_le cnET a (k + 1)
      have hx := hn2 _ (getD_mem a [] k hkn)
      have hov := set_over (markL mkET cnET a m) a [] k hkn hl
      rw [hq] at hov
      generalize hx' : a.getD k [] = x at *
      simp only [cnET] at hcs
      generalize hK : m + (cntL cnET (a.take k) : Int) = K at *
      refine callx hD hu hC (x_markText (K) (by omega)) ?_
      ((try conv => cbv); (repeat' (first | with_reducible exact mK hD | (with_reducible first | refine mS hD ?_ | refine mJ hL ?_ | refine mT hD ?_ | refine mF hD ?_ | refine mB hD (fun _ => ?_) (fun _ => ?_) | exact True.intro | refine And.intro ?_ ?_) <;> try conv => cbv)); all_goals try exact fx)
      all_goals try ((subst hD hu; (try simp only [std, uid, rR, rB, rT, rN, rClu, rCel, rSnp, rKey, rCluS, rCelS, lR, lB, lT, lN, lClu, lCel, eL, dClu, dCel, dSnp, dKey, Int.toNat_natCast, Int.ofNat_eq_natCast, hg]) <;> rfl))
      repeat' (simp only [hset2, hset3, hset, rowN]; ((try conv => cbv); (repeat' (first | with_reducible exact mK hD | (with_reducible first | refine mS hD ?_ | refine mJ hL ?_ | refine mT hD ?_ | refine mF hD ?_ | refine mB hD (fun _ => ?_) (fun _ => ?_) | exact True.intro | refine And.intro ?_ ?_) <;> try conv => cbv)); all_goals try exact fx))
      all_goals try ((subst hD hu; (try simp only [std, uid, rR, rB, rT, rN, rClu, rCel, rSnp, rKey, rCluS, rCelS, lR, lB, lT, lN, lClu, lCel, eL, dClu, dCel, dSnp, dKey, Int.toNat_natCast, Int.ofNat_eq_natCast, hg]) <;> rfl))
      (have hkn : k + 1 ≤ a.length := lo; refine ⟨k + 1, ((markL mkET cnET a m).take (k + 1) ++ a.drop (k + 1)), hkn, ?_, ssem_of ?_, by omega⟩)
      · rfl
      · ((try conv => cbv); (repeat' (first | with_reducible exact mK hD | (with_reducible first | refine mS hD ?_ | refine mJ hL ?_ | refine mT hD ?_ | refine mF hD ?_ | refine mB hD (fun _ => ?_) (fun _ => ?_) | exact True.intro | refine And.intro ?_ ?_) <;> try conv => cbv)); all_goals try exact fx)
        all_goals try (((try subst hD hu); (try simp only [nc] at *); (try simp only [Int.ofNat_eq_natCast] at *); try simp (disch := omega) only [std, uid, S0] at *); omega; done)
        (subst hD hu; apply qT; (focus repeat' (first | exact LR.refl | exact LR_bytes | apply mClu | apply mCel | apply mKey | apply mSnp | apply mKRd | apply mLin | apply mHis | apply mBlk | apply mScr | apply mSes | exact zR | exact zB | exact zT | exact zN | exact zClu | exact zCel | exact zCelS | exact zSnp | exact zKey | exact zSes | exact zScr | apply LR.deq | exact LR.nil | apply LR.one | apply LR.rep | apply LR.cat | apply LR.cat' | apply LR.set | exact u8_0 | exact DEq.s _ | (apply str_deq; (repeat' apply sr_cat) <;> rfl) | apply aLe_1 | (apply LR.rfl'; simp only [uid, std, S0]; omega))); all_goals try simp only [uid, std, Int.toNat_natCast, Int.ofNat_eq_natCast])
        try simp (disch := omega) only [wrap64, Int.tmod_eq_emod_of_nonneg]
        exact hov
end Go.AW
/- Histories and blocks: sizes, copies, alike, marked, held. -/
set_option linter.unusedVariables false
set_option linter.unusedSimpArgs false
namespace Go.AW
open Go.Proofs
set_option maxRecDepth 100000
theorem x_eqBlock (a : Blk) (hn : bdEBlk 1000000000 a) : PX Tryd.prog 14 (fun D u => [.r (.a (rBlk D u (u _ a))), .r (.a (rBlk D u (u _ a)))]) (fun D u => [RB true]) (fun D u => []) := by
  refine px_of_awp (fn := Tryd.f14) (c := bodyOf Tryd.f14) envOk (by kernel_rfl) (by kernel_rfl) (by kernel_rfl) (by kernel_rfl) rfl (by kernel_rfl) (by kernel_rfl) ?_
  intro w0 mine D u C L hD hu hC hL
  ((try conv => cbv); (repeat' (first | with_reducible exact mK hD | (with_reducible first | refine mS hD ?_ | refine mJ hL ?_ | refine mT hD ?_ | refine mF hD ?_ | refine mB hD (fun _ => ?_) (fun _ => ?_) | exact True.intro | refine And.intro ?_ ?_) <;> try conv => cbv)); all_goals try exact fx)
  all_goals (
    refine callx hD hu hC (x_eqStringS a.rows (hn)) ?_
    ((try conv => cbv); (repeat' (first | with_reducible exact mK hD | (with_reducible first | refine mS hD ?_ | refine mJ hL ?_ | refine mT hD ?_ | refine mF hD ?_ | refine mB hD (fun _ => ?_) (fun _ => ?_) | exact True.intro | refine And.intro ?_ ?_) <;> try conv => cbv)); all_goals try exact fx)
    all_goals try ((subst hD hu; (try simp only [std, uid, rR, rB, rT, rN, rClu, rCel, rSnp, rKey, rCluS, rCelS, lR, lB, lT, lN, lClu, lCel, eL, dClu, dCel, dSnp, dKey, Int.toNat_natCast, Int.ofNat_eq_natCast]) <;> rfl)))
theorem x_markBlock (a : Blk) (m r : Int) (h : 0 ≤ m ∧ m + cvBlk a ≤ 1000000000000000000) (hn : bdEBlk 1000000000 a) (hr : r = m + cvBlk a) : PX Tryd.prog 15 (fun D u => [.o (.a (rBlk D u (u _ a))), AI (u _ m)]) (fun D u => [RI (u _ r)]) (fun D u => [.a (rBlk D u (u _ (mvBlk a m)))]) := by
  refine px_of_awp (fn := Tryd.f15) (c := bodyOf Tryd.f15) envOk (by kernel_rfl) (by kernel_rfl) (by kernel_rfl) (by kernel_rfl) rfl (by kernel_rfl) (by kernel_rfl) ?_
  intro w0 mine D u C L hD hu hC hL
  simp only [cvBlk] at hr h
  ((try conv => cbv); (repeat' (first | with_reducible exact mK hD | (with_reducible first | refine mS hD ?_ | refine mJ hL ?_ | refine mT hD ?_ | refine mF hD ?_ | refine mB hD (fun _ => ?_) (fun _ => ?_) | exact True.intro | refine And.intro ?_ ?_) <;> try conv => cbv)); all_goals try exact fx)
  refine callx hD hu hC (x_markStringS a.rows (m) (m + (cntL cnET a.rows : Nat)) (by omega) (hn) rfl) ?_
  ((try conv => cbv); (repeat' (first | with_reducible exact mK hD | (with_reducible first | refine mS hD ?_ | refine mJ hL ?_ | refine mT hD ?_ | refine mF hD ?_ | refine mB hD (fun _ => ?_) (fun _ => ?_) | exact True.intro | refine And.intro ?_ ?_) <;> try conv => cbv)); all_goals try exact fx)
  all_goals try ((subst hD hu; (try simp only [std, uid, rR, rB, rT, rN, rClu, rCel, rSnp, rKey, rCluS, rCelS, lR, lB, lT, lN, lClu, lCel, eL, dClu, dCel, dSnp, dKey, Int.toNat_natCast, Int.ofNat_eq_natCast, mvBlk, mkB_len, mkR_len, mkN_len, markL_len]) <;> rfl))
theorem x_szBlock (a : Blk) (left r : Int) (h : -1 ≤ left ∧ left ≤ 1048576) (hn : bdEBlk 140737488355328 a) (hr : r = if left - toEBlk a < 0 then -1 else left - toEBlk a) : PX Tryd.prog 9 (fun D u => [.r (.a (rBlk D u (u _ a))), AI (u _ left)]) (fun D u => [RI (u _ r)]) (fun D u => []) := by
  refine px_of_awp (fn := Tryd.f9) (c := bodyOf Tryd.f9) envOk (by kernel_rfl) (by kernel_rfl) (by kernel_rfl) (by kernel_rfl) rfl (by kernel_rfl) (by kernel_rfl) ?_
  intro w0 mine D u C L hD hu hC hL
  simp only [toEBlk] at hr
  simp only [bdEBlk] at hn
  ((try conv => cbv); (repeat' (first | with_reducible exact mK hD | (with_reducible first | refine mS hD ?_ | refine mJ hL ?_ | refine mT hD ?_ | refine mF hD ?_ | refine mB hD (fun _ => ?_) (fun _ => ?_) | exact True.intro | refine And.intro ?_ ?_) <;> try conv => cbv)); all_goals try exact fx)
  obtain ⟨r1, hr1⟩ := opq (if left - (totL toET a.rows : Nat) < 0 then -1 else left - ((totL toET a.rows : Nat) : Int))
  refine callx hD hu hC (x_szStringS a.rows (left) r1 lo (hn) hr1) ?_
  ((try conv => cbv); (repeat' (first | with_reducible exact mK hD | (with_reducible first | refine mS hD ?_ | refine mJ hL ?_ | refine mT hD ?_ | refine mF hD ?_ | refine mB hD (fun _ => ?_) (fun _ => ?_) | exact True.intro | refine And.intro ?_ ?_) <;> try conv => cbv)); all_goals try exact fx)
  all_goals try ((subst hD hu; (try simp only [std, uid, rR, rB, rT, rN, rClu, rCel, rSnp, rKey, rCluS, rCelS, lR, lB, lT, lN, lClu, lCel, eL, dClu, dCel, dSnp, dKey, Int.toNat_natCast, Int.ofNat_eq_natCast]) <;> rfl))
  all_goals try (((try subst hD hu); (try simp only [nc] at *); (try simp only [Int.ofNat_eq_natCast] at *); try simp (disch := omega) only [std, uid, S0] at *); omega; done)
theorem x_toBlock (a : Blk) (hn : bdEBlk 1000000000 a) : PX Tryd.prog 11 (fun D u => [.r (.a (rBlk D u (u _ a)))]) (fun D u => [.a (rBlk D u (u _ a))]) (fun D u => []) := by
  refine px_of_awp (fn := Tryd.f11) (c := bodyOf Tryd.f11) envOk (by kernel_rfl) (by kernel_rfl) (by kernel_rfl) (by kernel_rfl) rfl (by kernel_rfl) (by kernel_rfl) ?_
  intro w0 mine D u C L hD hu hC hL
  ((try conv => cbv); (repeat' (first | with_reducible exact mK hD | (with_reducible first | refine mS hD ?_ | refine mJ hL ?_ | refine mT hD ?_ | refine mF hD ?_ | refine mB hD (fun _ => ?_) (fun _ => ?_) | exact True.intro | refine And.intro ?_ ?_) <;> try conv => cbv)); all_goals try exact fx)
  refine callx hD hu hC (x_toStringS a.rows (hn)) ?_
  ((try conv => cbv); (repeat' (first | with_reducible exact mK hD | (with_reducible first | refine mS hD ?_ | refine mJ hL ?_ | refine mT hD ?_ | refine mF hD ?_ | refine mB hD (fun _ => ?_) (fun _ => ?_) | exact True.intro | refine And.intro ?_ ?_) <;> try conv => cbv)); all_goals try exact fx)
  all_goals try ((subst hD hu; (try simp only [std, uid, rR, rB, rT, rN, rClu, rCel, rSnp, rKey, rCluS, rCelS, lR, lB, lT, lN, lClu, lCel, eL, dClu, dCel, dSnp, dKey, Int.toNat_natCast, Int.ofNat_eq_natCast]) <;> rfl))
end Go.AW
/- Lines: sizes, copies, alike, marked, held. -/
set_option linter.unusedVariables false
set_option linter.unusedSimpArgs false
namespace Go.AW
open Go.Proofs
set_option maxRecDepth 100000
end Go.AW
/- Drawing: numbers in text; the specification. -/
set_option linter.unusedVariables false
set_option linter.unusedSimpArgs false
namespace Go.AW
open Go.Proofs
set_option maxRecDepth 100000
set_option maxHeartbeats 8000000
def decS (n : Nat) : Str := Lib.decDigits n
theorem decS_small {n : Nat} (h : n < 10) : decS n = [UInt8.ofNat (48 + n)] := by unfold decS; rw [Lib.decDigits, dif_pos h]
theorem decS_big {n : Nat} (h : ¬ n < 10) : decS n = decS (n / 10) ++ [UInt8.ofNat (48 + n % 10)] := by unfold decS; rw [Lib.decDigits, dif_neg h]
theorem decS_len (n : Nat) : (decS n).length ≤ n + 1 := by
  induction n using Nat.strongRecOn with
  | _ n ih =>
    by_cases h : n < 10
    · rw [decS_small h]; simp
    · rw [decS_big h]
      have := ih (n / 10) (by omega)
      simp only [List.length_append, List.length_cons, List.length_nil]
      omega
def goS (n : Int) (last : Str) : Str := if n ≤ 0 then [] else [27, 91] ++ decS n.toNat ++ last
theorem goS_len (n : Int) (last : Str) (h : n ≤ 1000000000) : (goS n last).length ≤ 1000000003 + last.length := by
  unfold goS
  split
  · simp
  · have := decS_len n.toNat
    simp only [List.length_append, List.length_cons, List.length_nil]
    omega
theorem goS_len2 (n : Int) (last : Str) : (goS n last).length ≤ n.toNat + 3 + last.length := by
  unfold goS
  split
  · simp
  · have := decS_len n.toNat
    simp only [List.length_append, List.length_cons, List.length_nil]
    omega
def drawable (b : Blk) : Bool := decide (0 ≤ b.row ∧ b.row < b.rows.length ∧ 0 ≤ b.col ∧ b.col < 200)
def jn (rows : List Str) : Nat → Str
  | 0 => []
  | k + 1 => jn rows k ++ (if 0 < k then [13, 10] else []) ++ rows.getD k []
def paint (b : Blk) : Str := if drawable b then jn b.rows b.rows.length ++ (goS (b.rows.length - 1 - b.row) [65] ++ goS (b.col + 1) [71]) else []
def erase (b : Blk) : Str := if drawable b then [13] ++ goS b.row [65] ++ [27, 91, 74] else []
theorem str1 {x : Int} {b : UInt8} (h : x = b.toNat) : std.strF 1 (fun _ => [.s (.int .u8 x)]) = std.strB [b] := by
  subst h
  have := b.toNat_lt
  refine sr_strF (LR.one (aLe_1 ?_))
  simp only [std]
  exact DEq.s _
theorem leN_cat {a b : ByteArray} {x y : Str} (ha : a = std.strB x) (hb : b = std.strB y) (h : x.length + y.length ≤ 9223372036854775807) : std.leN (std.addN (std.lenS a) (std.lenS b)) 9223372036854775807 = true := by
  subst ha hb
  simp only [std, decide_eq_true_eq]
  rw [str_sz, str_sz]
  exact h
theorem dig8 (n : Int) (h : 0 ≤ n ∧ n ≤ 9) : std.wrapI .u8 (std.addI .i64 48 n) = (UInt8.ofNat (48 + n.toNat)).toNat := by
  simp only [std, wu8, UInt8.toNat_ofNat']
  rw [wrap64 _ (by omega)]
  omega
theorem x_l6Dec (n : Nat) (hn : n ≤ 1000000000) : PX Tryd.prog 78 (fun D u => [AI (u _ ((n : Int)))]) (fun D u => [.c (.s (.string (D.strB (u _ (decS n)))))]) (fun D u => []) := by
  induction n using Nat.strongRecOn with
  | _ n ih =>
  refine px_of_awp (fn := Tryd.f78) (c := bodyOf Tryd.f78) envOk (by kernel_rfl) (by kernel_rfl) (by kernel_rfl) (by kernel_rfl) rfl (by kernel_rfl) (by kernel_rfl) ?_
  intro w0 mine D u C L hD hu hC hL
  by_cases h : n < 10
  · ((try conv => cbv); (repeat' (first | with_reducible exact mK hD | (with_reducible first | refine mS hD ?_ | refine mJ hL ?_ | refine mT hD ?_ | refine mF hD ?_ | refine mB hD (fun _ => ?_) (fun _ => ?_) | exact True.intro | refine And.intro ?_ ?_) <;> try conv => cbv)); all_goals try exact fx)
    · subst hD hu
      rw [decS_small h]
      have e := dig8 (n : Int) (by omega)
      rw [Int.toNat_natCast] at e
      exact str_eq' (str1 e)
  · have hr : std.remI (uid Int (n : Int)) 10 = ((n % 10 : Nat) : Int) := by simp only [std, uid]; rw [Int.tmod_eq_emod_of_nonneg (by omega)]; omega
    have hr2 : std.wrapI .u8 (std.addI .i64 48 (std.remI (uid Int (n : Int)) 10)) = (UInt8.ofNat (48 + n % 10)).toNat := by
      rw [hr, dig8 _ (by omega)]; rfl
    ((try conv => cbv); (repeat' (first | with_reducible exact mK hD | (with_reducible first | refine mS hD ?_ | refine mJ hL ?_ | refine mT hD ?_ | refine mF hD ?_ | refine mB hD (fun _ => ?_) (fun _ => ?_) | exact True.intro | refine And.intro ?_ ?_) <;> try conv => cbv)); all_goals try exact fx)
    all_goals
      refine callx hD hu hC (ih (n / 10) (by omega) (by omega)) ?_
      have hl := decS_len (n / 10)
      ((try conv => cbv); (repeat' (first | with_reducible exact mK hD | (with_reducible first | refine mS hD ?_ | refine mJ hL ?_ | refine mT hD ?_ | refine mF hD ?_ | refine mB hD (fun _ => ?_) (fun _ => ?_) | exact True.intro | refine And.intro ?_ ?_) <;> try conv => cbv)); all_goals try exact fx)
      · subst hD hu
        exact leN_cat rfl (str1 hr2) (by simp only [uid, List.length_cons, List.length_nil]; omega)
      · subst hD hu
        rw [decS_big h]
        exact str_eq' (sr_cat rfl (str1 hr2))
theorem x_l6Go (n : Int) (last : Str) (hn : -1000000000 ≤ n ∧ n ≤ 1000000000) (hl : last.length ≤ 10) : PX Tryd.prog 47 (fun D u => [AI (u _ n), .r (.c (.s (.string (D.strB (u _ last)))))]) (fun D u => [.c (.s (.string (D.strB (u _ (goS n last)))))]) (fun D u => []) := by
  refine px_of_awp (fn := Tryd.f47) (c := bodyOf Tryd.f47) envOk (by kernel_rfl) (by kernel_rfl) (by kernel_rfl) (by kernel_rfl) rfl (by kernel_rfl) (by kernel_rfl) ?_
  intro w0 mine D u C L hD hu hC hL
  ((try conv => cbv); (repeat' (first | with_reducible exact mK hD | (with_reducible first | refine mS hD ?_ | refine mJ hL ?_ | refine mT hD ?_ | refine mF hD ?_ | refine mB hD (fun _ => ?_) (fun _ => ?_) | exact True.intro | refine And.intro ?_ ?_) <;> try conv => cbv)); all_goals try exact fx)
  · have h : n ≤ 0 := lo
    ((try subst hD hu); (try simp only [nc] at *); (try simp only [Int.ofNat_eq_natCast] at *); try simp (disch := omega) only [std, uid, S0, goS, if_pos h] at *)
  · have h : ¬ n ≤ 0 := lo
    have hd := decS_len n.toNat
    refine callx hD hu hC (x_l6Dec n.toNat (by omega)) ?_
    have e : ((n.toNat : Nat) : Int) = n := by omega
    ((try conv => cbv); (repeat' (first | with_reducible exact mK hD | (with_reducible first | refine mS hD ?_ | refine mJ hL ?_ | refine mT hD ?_ | refine mF hD ?_ | refine mB hD (fun _ => ?_) (fun _ => ?_) | exact True.intro | refine And.intro ?_ ?_) <;> try conv => cbv)); all_goals try exact fx)
    ((try subst hD hu); (try simp only [nc] at *); (try simp only [Int.ofNat_eq_natCast] at *); try simp (disch := omega) only [std, uid, S0, goS, if_neg h] at *)
def joinRow (b : Blk) : Str := jn b.rows b.rows.length
theorem x_l6Ok (b : Blk) (hb : bdEBlk 100000000 b) (hk : okBlk b) : PX Tryd.prog 46 (fun D u => [.r (.a (rBlk D u (u _ b)))]) (fun D u => [RB (u _ (drawable b))]) (fun D u => []) := by
  refine px_of_awp (fn := Tryd.f46) (c := bodyOf Tryd.f46) envOk (by kernel_rfl) (by kernel_rfl) (by kernel_rfl) (by kernel_rfl) rfl (by kernel_rfl) (by kernel_rfl) ?_
  intro w0 mine D u C L hD hu hC hL
  have hb1 := hb.1
  ((try conv => cbv); (repeat' (first | with_reducible exact mK hD | (with_reducible first | refine mS hD ?_ | refine mJ hL ?_ | refine mT hD ?_ | refine mF hD ?_ | refine mB hD (fun _ => ?_) (fun _ => ?_) | exact True.intro | refine And.intro ?_ ?_) <;> try conv => cbv)); all_goals try exact fx)
  all_goals (((try subst hD hu); (try simp only [nc] at *); (try simp only [Int.ofNat_eq_natCast] at *); try simp (disch := omega) only [std, uid, S0, drawable] at *); first | (rw [Bool.eq_iff_iff, decide_eq_true_iff, decide_eq_true_iff]; omega) | (symm; rw [decide_eq_false_iff_not]; omega))
theorem cntL_app {α : Type} (c : α → Nat) (a b : List α) : cntL c (a ++ b) = cntL c a + cntL c b := by simp [cntL]
theorem jn_len (rows : List Str) (N : Nat) (hb : bdL bdET N rows) : ∀ k, (jn rows k).length ≤ cntL toET (rows.take k) + 2 * k
  | 0 => by simp [jn]
  | k + 1 => by
    have ih := jn_len rows N hb k
    have h1 : (jn rows (k + 1)).length ≤ (jn rows k).length + 2 + (rows.getD k []).length := by
      simp only [jn, List.length_append]
      split <;> simp <;> omega
    rcases Nat.lt_or_ge k rows.length with h | h
    · rw [take_snoc rows [] k h]
      have := cntL_app toET (rows.take k) [rows.getD k []]
      have e : cntL toET [rows.getD k []] = (rows.getD k []).length := by simp [cntL, toET]
      omega
    · have e : rows.getD k [] = [] := by rw [List.getD_eq_getElem?_getD, List.getElem?_eq_none h]; rfl
      rw [e] at h1
      rw [List.take_of_length_le (by omega)] at ih ⊢
      simp only [List.length_nil] at h1
      omega
theorem jn_bd (b : Blk) (N : Nat) (h : toEBlk b ≤ N) (k : Nat) (hk : k ≤ b.rows.length) : (jn b.rows k).length ≤ 3 * N := by
  have h1 := jn_len b.rows _ (bdL_of boET _ _ (Nat.le_refl (totL toET b.rows))) k
  have h2 := cntL_app toET (b.rows.take k) (b.rows.drop k)
  rw [List.take_append_drop] at h2
  simp only [toEBlk, totL] at h
  omega
theorem paint_tot (b : Blk) {N : Nat} (h : toEBlk b ≤ N) : (paint b).length ≤ 5 * N + 1000 := by
  unfold paint
  split
  · rename_i hd
    have hd : 0 ≤ b.row ∧ b.row < b.rows.length ∧ 0 ≤ b.col ∧ b.col < 200 := by simpa [drawable] using hd
    have h1 := jn_bd b N h b.rows.length (Nat.le_refl _)
    have h2 := goS_len2 (b.rows.length - 1 - b.row) [65]
    have h3 := goS_len2 (b.col + 1) [71]
    simp only [toEBlk, totL] at h
    simp only [List.length_append, List.length_cons, List.length_nil] at h2 h3 ⊢
    omega
  · simp
theorem erase_tot (b : Blk) {N : Nat} (h : toEBlk b ≤ N) : (erase b).length ≤ 5 * N + 1000 := by
  unfold erase
  split
  · rename_i hd
    have hd : 0 ≤ b.row ∧ b.row < b.rows.length ∧ 0 ≤ b.col ∧ b.col < 200 := by simpa [drawable] using hd
    have h2 := goS_len2 b.row [65]
    simp only [toEBlk, totL] at h
    simp only [List.length_append, List.length_cons, List.length_nil] at h2 ⊢
    omega
  · simp
theorem LRlit {zs : List Int} {bs : Str} {n : Nat} (h : zs = bs.map fun b => (b.toNat : Int)) (hn : n = bs.length) : LR (rB std uid) 0 (fun i => [.s (.int .u8 (std.nthI zs i))]) n bs := by
  refine ⟨hn, fun i hi => aLe_1 ?_⟩
  have : std.nthI zs i = ((bs.getD i 0).toNat : Int) := by
    subst h
    simp only [std, List.getD_eq_getElem?_getD, List.getElem?_map]
    rw [List.getElem?_eq_getElem (by omega)]
    rfl
  rw [this]
  exact DEq.s _
theorem LR_bytes' {x : ByteArray} {s : Str} (h : x = std.strB s) : LR (rB std uid) 0 (fun i => [.s (.int .u8 (std.byteS x i))]) (std.lenS x) s := h ▸ LR_bytes
theorem LRlit' {zs : List Int} {bs : Str} {n : Nat} (h : zs = bs.map fun b => (b.toNat : Int)) (hn : n = bs.length) : LR (rB std uid) 0 (fun j => List.map (fun c => c j) [fun i => DV.s (.int .u8 (std.nthI zs i))]) n bs := LRlit h hn
theorem x_specPaint (b : Blk) (hb : bdEBlk 2000000 b) (hk : okBlk b) (ht : toEBlk b ≤ 2000000) : PX Tryd.prog 18 (fun D u => [.r (.a (rBlk D u (u _ b)))]) (fun D u => [.c (lB D u (u _ (paint b)))]) (fun D u => []) := by
  have hb1 := hb.1
  have hb2 := hb.2
  refine px_of_awp (fn := Tryd.f18) (c := bodyOf Tryd.f18) envOk (by kernel_rfl) (by kernel_rfl) (by kernel_rfl) (by kernel_rfl) rfl (by kernel_rfl) (by kernel_rfl) ?_
  intro w0 mine D u C L hD hu hC hL
  ((try conv => cbv); (repeat' (first | with_reducible exact mK hD | (with_reducible first | refine mS hD ?_ | refine mT hD ?_ | refine mF hD ?_ | refine mB hD (fun _ => ?_) (fun _ => ?_) | exact True.intro | refine And.intro ?_ ?_) <;> try conv => cbv)); all_goals try exact fx)
  refine callx hD hu hC (x_l6Ok b (bmEBlk _ _ _ (by omega) hb) hk) ?_
  cases h : drawable b with
  | false =>
    have e : paint b = [] := by rw [paint, h]; rfl
    rw [e]
    ((try conv => cbv); (repeat' (first | with_reducible exact mK hD | (with_reducible first | refine mS hD ?_ | refine mJ hL ?_ | refine mT hD ?_ | refine mF hD ?_ | refine mB hD (fun _ => ?_) (fun _ => ?_) | exact True.intro | refine And.intro ?_ ?_) <;> try conv => cbv)); all_goals try exact fx)
    (subst hD hu; apply qB; (focus repeat' (first | exact LR.refl | exact LR_bytes | apply mClu | apply mCel | apply mKey | apply mSnp | apply mKRd | apply mLin | apply mHis | apply mBlk | apply mScr | apply mSes | exact zR | exact zB | exact zT | exact zN | exact zClu | exact zCel | exact zCelS | exact zSnp | exact zKey | exact zSes | exact zScr | apply LR.deq | exact LR.nil | apply LR.one | apply LR.rep | apply LR.cat | apply LR.cat' | apply LR.set | exact u8_0 | exact DEq.s _ | (apply str_deq; (repeat' apply sr_cat) <;> rfl) | apply aLe_1 | (apply LR.rfl'; simp only [uid, std, S0]; omega))); all_goals try simp only [uid, std, Int.toNat_natCast, Int.ofNat_eq_natCast])
  | true =>
    have e : paint b = jn b.rows b.rows.length ++ (goS (b.rows.length - 1 - b.row) [65] ++ goS (b.col + 1) [71]) := by rw [paint, h]; rfl
    have hd : 0 ≤ b.row ∧ b.row < b.rows.length ∧ 0 ≤ b.col ∧ b.col < 200 := by simpa [drawable] using h
    have hrl : b.rows.length ≤ 2000000 := by simp only [toEBlk, totL] at ht; omega
    ((try conv => cbv); (repeat' (first | with_reducible exact mK hD | (with_reducible first | refine mS hD ?_ | refine mJ hL ?_ | refine mT hD ?_ | refine mF hD ?_ | refine mB hD (fun _ => ?_) (fun _ => ?_) | exact True.intro | refine And.intro ?_ ?_) <;> try conv => cbv)); all_goals try exact fx)
    refine loop_st hL b.rows.length (fun k s => s = jn b.rows k) [] (fun k s => [(3, vO D 1 (u _ s)), (5, .bad), (4, VI (u _ k))]) (fun k s => [(1, oB D u (u _ s))]) rfl ?_ ?_
    · ((try conv => cbv); (repeat' (first | with_reducible exact mK hD | (with_reducible first | refine mS hD ?_ | refine mJ hL ?_ | refine mT hD ?_ | refine mF hD ?_ | refine mB hD (fun _ => ?_) (fun _ => ?_) | exact True.intro | refine And.intro ?_ ?_) <;> try conv => cbv)); all_goals try exact fx)
      (subst hD hu; apply qB; (focus repeat' (first | exact LR.refl | exact LR_bytes | apply mClu | apply mCel | apply mKey | apply mSnp | apply mKRd | apply mLin | apply mHis | apply mBlk | apply mScr | apply mSes | exact zR | exact zB | exact zT | exact zN | exact zClu | exact zCel | exact zCelS | exact zSnp | exact zKey | exact zSes | exact zScr | apply LR.deq | exact LR.nil | apply LR.one | apply LR.rep | apply LR.cat | apply LR.cat' | apply LR.set | exact u8_0 | exact DEq.s _ | (apply str_deq; (repeat' apply sr_cat) <;> rfl) | apply aLe_1 | (apply LR.rfl'; simp only [uid, std, S0]; omega))); all_goals try simp only [uid, std, Int.toNat_natCast, Int.ofNat_eq_natCast])
    · intro k s hkk hs
      have hsl := jn_bd b _ ht k hkk
      rw [← hs] at hsl
      have hrk : k < b.rows.length → (b.rows.getD k []).length ≤ 2000000 := fun h => hb.2 _ (getD_mem _ _ _ h)
      ((try conv => cbv); (repeat' (first | with_reducible exact mK hD | (with_reducible first | refine mS hD ?_ | refine mJ hL ?_ | refine mT hD ?_ | refine mF hD ?_ | refine mB hD (fun _ => ?_) (fun _ => ?_) | exact True.intro | refine And.intro ?_ ?_) <;> try conv => cbv)); all_goals try exact fx)
      · have hkn : k < b.rows.length := lo
        have h0 : 0 < k := lo
        refine ⟨k + 1, s ++ [13, 10] ++ b.rows.getD k [], hkn, by rw [hs, jn, if_pos h0], ssem_of ?_, by omega⟩
        ((try conv => cbv); (repeat' (first | with_reducible exact mK hD | (with_reducible first | refine mS hD ?_ | refine mJ hL ?_ | refine mT hD ?_ | refine mF hD ?_ | refine mB hD (fun _ => ?_) (fun _ => ?_) | exact True.intro | refine And.intro ?_ ?_) <;> try conv => cbv)); all_goals try exact fx)
        subst hD hu
        exact LR.deq2 (LR.cat' (LR.cat' LR.refl (LRlit' rfl rfl)) LR_bytes)
      · have hkn : k < b.rows.length := lo
        have h0 : ¬ 0 < k := lo
        refine ⟨k + 1, s ++ b.rows.getD k [], hkn, by rw [hs, jn, if_neg h0, List.append_nil], ssem_of ?_, by omega⟩
        ((try conv => cbv); (repeat' (first | with_reducible exact mK hD | (with_reducible first | refine mS hD ?_ | refine mJ hL ?_ | refine mT hD ?_ | refine mF hD ?_ | refine mB hD (fun _ => ?_) (fun _ => ?_) | exact True.intro | refine And.intro ?_ ?_) <;> try conv => cbv)); all_goals try exact fx)
        subst hD hu
        exact LR.deq2 (LR.cat' LR.refl LR_bytes)
      · have ek : k = b.rows.length := lo
        subst ek
        have hg1 := goS_len ((b.rows.length : Int) - 1 - b.row) [65] (by omega)
        have hg2 := goS_len (b.col + 1) [71] (by omega)
        refine callx hD hu hC (x_l6Go ((b.rows.length : Int) - 1 - b.row) [65] (by omega) (by simp)) ?_
        ((try conv => cbv); (repeat' (first | with_reducible exact mK hD | (with_reducible first | refine mS hD ?_ | refine mJ hL ?_ | refine mT hD ?_ | refine mF hD ?_ | refine mB hD (fun _ => ?_) (fun _ => ?_) | exact True.intro | refine And.intro ?_ ?_) <;> try conv => cbv)); all_goals try exact fx)
        refine callx hD hu hC (x_l6Go (b.col + 1) [71] (by omega) (by simp)) ?_
        ((try conv => cbv); (repeat' (first | with_reducible exact mK hD | (with_reducible first | refine mS hD ?_ | refine mJ hL ?_ | refine mT hD ?_ | refine mF hD ?_ | refine mB hD (fun _ => ?_) (fun _ => ?_) | exact True.intro | refine And.intro ?_ ?_) <;> try conv => cbv)); all_goals try exact fx)
        · ((try subst hD hu); (try simp only [nc] at *); (try simp only [Int.ofNat_eq_natCast] at *); try simp (disch := omega) only [std, uid, S0, e, hs] at *)
        · subst hD hu
          refine LR.deq2 (LR.to (LR.cat' LR.refl (LR_bytes' (sr_cat rfl rfl))) ?_)
          simp only [uid, e, hs]
end Go.AW
/- Facts of the program on which laws of the library lean. -/
namespace Go.Proofs
open Go.Shelf
def Tryd.laysM171_ren : Go.Shelf.Ren := ⟨fun | 171 => 81 | 243 => 110 | 246 => 131 | 283 => 142 | 284 => 143 | 285 => 144 | 286 => 145 | 129 => 150 | 317 => 149 | 318 => 151 | 319 => 152 | 320 => 153 | 337 => 157 | 338 => 158 | n => n, fun | 3 => 3 | 9 => 9 | 2 => 2 | 4 => 4 | 171 => 168 | 0 => 0 | 53 => 169 | 37 => 26 | 5 => 5 | 173 => 172 | 212 => 178 | 51 => 163 | 20 => 20 | 213 => 179 | 46 => 146 | 232 => 185 | 233 => 186 | n => n, fun | 17 => 3 | 18 => 4 | 19 => 5 | n => n⟩
theorem Tryd.laysM171 : Go.Proofs.LaysM.n171 Tryd.prog Tryd.laysM171_ren := {
  mixed := by kernel_rfl
  f129 := Tryd.func150.trans (congrArg some (by kernel_rfl))
  f171 := Tryd.func81.trans (congrArg some (by kernel_rfl))
  f243 := Tryd.func110.trans (congrArg some (by kernel_rfl))
  f246 := Tryd.func131.trans (congrArg some (by kernel_rfl))
  f283 := Tryd.func142.trans (congrArg some (by kernel_rfl))
  f284 := Tryd.func143.trans (congrArg some (by kernel_rfl))
  f285 := Tryd.func144.trans (congrArg some (by kernel_rfl))
  f286 := Tryd.func145.trans (congrArg some (by kernel_rfl))
  f317 := Tryd.func149.trans (congrArg some (by kernel_rfl))
  f318 := Tryd.func151.trans (congrArg some (by kernel_rfl))
  f319 := Tryd.func152.trans (congrArg some (by kernel_rfl))
  f320 := Tryd.func153.trans (congrArg some (by kernel_rfl))
  f337 := Tryd.func157.trans (congrArg some (by kernel_rfl))
  f338 := Tryd.func158.trans (congrArg some (by kernel_rfl))
  t0 := Tryd.underlying0
  a0 := Tryd.isAgg0
  z0 := Tryd.sizeOf0
  v0 := Tryd.zeroValue0
  t2 := Tryd.underlying2
  a2 := Tryd.isAgg2
  z2 := Tryd.sizeOf2
  v2 := Tryd.zeroValue2
  t3 := Tryd.underlying3
  a3 := Tryd.isAgg3
  z3 := Tryd.sizeOf3
  v3 := Tryd.zeroValue3
  t4 := Tryd.underlying4
  a4 := Tryd.isAgg4
  z4 := Tryd.sizeOf4
  v4 := Tryd.zeroValue4
  t5 := Tryd.underlying5
  a5 := Tryd.isAgg5
  z5 := Tryd.sizeOf5
  v5 := Tryd.zeroValue5
  t9 := Tryd.underlying9
  a9 := Tryd.isAgg9
  z9 := Tryd.sizeOf9
  v9 := Tryd.zeroValue9
  t20 := Tryd.underlying20
  a20 := Tryd.isAgg20
  z20 := Tryd.sizeOf20
  v20 := Tryd.zeroValue20
  t37 := Tryd.underlying26
  a37 := Tryd.isAgg26
  z37 := Tryd.sizeOf26
  v37 := Tryd.zeroValue26
  t46 := Tryd.underlying146
  a46 := Tryd.isAgg146
  z46 := Tryd.sizeOf146
  v46 := Tryd.zeroValue146
  t51 := Tryd.underlying163
  a51 := Tryd.isAgg163
  z51 := Tryd.sizeOf163
  v51 := Tryd.zeroValue163
  t53 := Tryd.underlying169
  a53 := Tryd.isAgg169
  z53 := Tryd.sizeOf169
  v53 := Tryd.zeroValue169
  t171 := Tryd.underlying168
  a171 := Tryd.isAgg168
  z171 := Tryd.sizeOf168
  v171 := Tryd.zeroValue168
  t173 := Tryd.underlying172
  a173 := Tryd.isAgg172
  z173 := Tryd.sizeOf172
  v173 := Tryd.zeroValue172
  t212 := Tryd.underlying178
  a212 := Tryd.isAgg178
  z212 := Tryd.sizeOf178
  v212 := Tryd.zeroValue178
  t213 := Tryd.underlying179
  a213 := Tryd.isAgg179
  z213 := Tryd.sizeOf179
  t232 := Tryd.underlying185
  a232 := Tryd.isAgg185
  z232 := Tryd.sizeOf185
  v232 := Tryd.zeroValue185
  t233 := Tryd.underlying186
  a233 := Tryd.isAgg186
  z233 := Tryd.sizeOf186
  v233 := Tryd.zeroValue186
  g17 := by kernel_rfl
  g18 := by kernel_rfl
  g19 := by kernel_rfl
  i0 := by kernel_rfl
  i2 := by kernel_rfl
  i3 := by kernel_rfl
  i4 := by kernel_rfl
  i5 := by kernel_rfl
  i9 := by kernel_rfl
  i20 := by kernel_rfl
  i37 := by kernel_rfl
  i46 := by kernel_rfl
  i51 := by kernel_rfl
  i53 := by kernel_rfl
  i171 := by kernel_rfl
  i173 := by kernel_rfl
  i212 := by kernel_rfl
  i232 := by kernel_rfl
  i233 := by kernel_rfl
  m17 := by kernel_rfl
  m18 := by kernel_rfl
  m19 := by kernel_rfl }
end Go.Proofs
/- The abstract calculus: a library function that is known by a law on its calls. -/
set_option linter.unusedVariables false
set_option linter.unusedSimpArgs false
namespace Go.AW

/-- All that lay before lies as before. -/
structure Later (w w' : World) : Prop where
  size : w.heap.size ≤ w'.heap.size
  os : w'.os = w.os
  tape : w'.tape = w.tape
  output : w'.output = w.output
  old : ∀ b, b < w.heap.size → w'.heap[b]? = w.heap[b]?
theorem Later.refl (w : World) : Later w w := ⟨Nat.le_refl _, rfl, rfl, rfl, fun _ _ => rfl⟩
/-- The tables lie in a world. -/
def TabsIn (w : World) : Prop := ∃ mine, TabsOk w mine

theorem ins_scalars {w : World} {A : FP} : ∀ (vs us : List Value) (Fs : List FP), InsT w A (vs.map fun v => AM.r (.c (.s v))) us Fs → us = vs
  | [], us, Fs, h => by cases h; rfl
  | v :: vs, us, Fs, h => by
    cases h with
    | r F d u ds us Fs h hF ht =>
      have h1 := ins_scalars vs us Fs ht
      cases h
      rw [h1]
theorem outs_none {w : World} : ∀ (ds : List DP) (us : List Value), us.length = ds.length → OutsT w (ds.map AM.r) us [] []
  | [], [], _ => .nil
  | d :: ds, u :: us, h => .r _ _ _ _ _ _ (outs_none ds us (by simpa using h))
  | [], _ :: _, h => by simp at h
  | _ :: _, [], h => by simp at h
theorem own_scalars {w : World} : ∀ (rs : List Value), rs.all (·.oneCell') = true → OwnL w (rs.map fun v => DR.c (.s v)) rs (rs.map fun _ => fun _ => False)
  | [], _ => .nil
  | v :: rs, h => by
    simp only [List.all_cons, Bool.and_eq_true] at h
    exact .cons _ _ _ _ _ _ (.s _ _ h.1) (own_scalars rs h.2)
theorem any_false {α : Type} (l : List α) (x : Nat) : ¬ AnyL (l.map fun _ => fun _ => False) x := fun ⟨F, h, hx⟩ => by
  obtain ⟨_, _, rfl⟩ := List.mem_map.mp h
  exact hx

/-- Scalars in, scalars out. -/
theorem pret_of_calls {P : Program} {f : FuncId} {vs rs : List Value} (h1 : rs.all (·.oneCell') = true) (hc : ∀ w, (callFunc f vs.toArray).run P w = .ok (.enter f vs.toArray) w)
    (h : ∀ w, TabsIn w → Calls P f vs.toArray w fun e w' => e = .returned (packU rs) ∧ Later w w') : PRet P f (vs.map fun v => .r (.c (.s v))) (rs.map fun v => .c (.s v)) [] := by
  intro w us Fs hI hD hlt htab
  have he := ins_scalars vs us Fs hI
  subst he
  refine .inr ⟨hc w, (h w ⟨_, htab⟩).mono ?_⟩
  rintro e w' ⟨he, hl⟩
  refine ⟨_, he, rs.map fun v => .c (.s v), [], rs, rs.map fun _ => fun _ => False, [], ⟨rfl, rfl⟩, rfl, own_scalars rs h1, ?_, ?_, ?_, ⟨hl.size, hl.os, hl.tape, hl.output, fun b hb _ => hl.old b hb, htab⟩⟩
  · have := outs_none (w := w') (us.map fun v => DP.c (.s v)) us (by simp)
    simpa [Function.comp_def] using this
  · rw [List.append_nil]
    refine List.pairwise_iff_getElem.mpr fun i j hi hj hij x hx => ?_
    simp at hx
  · rintro x hx
    rw [List.append_nil] at hx
    exact absurd hx (any_false rs x)
end Go.AW
/- Drawing of the program. -/
set_option linter.unusedVariables false
set_option linter.unusedSimpArgs false
namespace Go.AW
open Go.Proofs
set_option maxRecDepth 100000
set_option maxHeartbeats 8000000
theorem grow_later (w : World) (k : Nat) (os : Array Go.Obj) : Later w (Sort.grow (w.drewN k) os) := by
  refine ⟨?_, rfl, rfl, rfl, fun b hb => ?_⟩
  · simp [Sort.grow, World.drewN]
  · simp only [Sort.grow, World.drewN]
    rw [Array.getElem?_append_left hb]
theorem x_Itoa (n : Nat) (hn : n ≤ 1000000000) : PX Tryd.prog 81 (fun D u => [AI (u _ ((n : Int)))]) (fun D u => [.c (.s (.string (D.strB (u _ (decS n)))))]) (fun D u => []) := by
  refine px_of (pret_of_calls (vs := [.int .i64 n]) (rs := [.string (std.strB (decS n))]) rfl ?_ ?_)
  · exact fun w => enters_of Tryd.func81 (by kernel_rfl) rfl _ w
  · intro w hT
    refine (Go.Proofs.Any.strconv_Itoa Tryd.laysM171 n (by omega) (by omega) w ?_).mono ?_
    · obtain ⟨mine, hT⟩ := hT
      obtain ⟨h1, h2, t, fr, h3⟩ := hT _ _ _ (show tabZ 3 = some (.u64, Lib.pow10Tab) from rfl)
      unfold Lib.TabIs World.var?
      rw [show Tryd.prog.globalNamed _ = some 3 by kernel_rfl]
      simp only [Option.bind_some, h3]
    · rintro e w' ⟨rfl, k, os, rfl⟩
      exact ⟨by simp [Lib.itoa, packU, std, decS], grow_later w k os⟩
theorem x_drawable (b : Blk) (hb : bdEBlk 100000000 b) (hk : okBlk b) : PX Tryd.prog 49 (fun D u => [.r (.a (rBlk D u (u _ b)))]) (fun D u => [RB (u _ (drawable b))]) (fun D u => []) := by
  refine px_of_awp (fn := Tryd.f49) (c := bodyOf Tryd.f49) envOk (by kernel_rfl) (by kernel_rfl) (by kernel_rfl) (by kernel_rfl) rfl (by kernel_rfl) (by kernel_rfl) ?_
  intro w0 mine D u C L hD hu hC hL
  have hb1 := hb.1
  ((try conv => cbv); (repeat' (first | with_reducible exact mK hD | (with_reducible first | refine mS hD ?_ | refine mJ hL ?_ | refine mT hD ?_ | refine mF hD ?_ | refine mB hD (fun _ => ?_) (fun _ => ?_) | exact True.intro | refine And.intro ?_ ?_) <;> try conv => cbv)); all_goals try exact fx)
  all_goals (((try subst hD hu); (try simp only [nc] at *); (try simp only [Int.ofNat_eq_natCast] at *); try simp (disch := omega) only [std, uid, S0, drawable] at *); first | (rw [Bool.eq_iff_iff, decide_eq_true_iff, decide_eq_true_iff]; omega) | (symm; rw [decide_eq_false_iff_not]; omega))
theorem x_implPaint (b : Blk) (hb : bdEBlk 2000000 b) (hk : okBlk b) (ht : toEBlk b ≤ 2000000) : PX Tryd.prog 19 (fun D u => [.r (.a (rBlk D u (u _ b)))]) (fun D u => [.c (lB D u (u _ (paint b)))]) (fun D u => []) := by
  have hb1 := hb.1
  have hb2 := hb.2
  refine px_of_awp (fn := Tryd.f19) (c := bodyOf Tryd.f19) envOk (by kernel_rfl) (by kernel_rfl) (by kernel_rfl) (by kernel_rfl) rfl (by kernel_rfl) (by kernel_rfl) ?_
  intro w0 mine D u C L hD hu hC hL
  ((try conv => cbv); (repeat' (first | with_reducible exact mK hD | (with_reducible first | refine mS hD ?_ | refine mT hD ?_ | refine mF hD ?_ | refine mB hD (fun _ => ?_) (fun _ => ?_) | exact True.intro | refine And.intro ?_ ?_) <;> try conv => cbv)); all_goals try exact fx)
  refine callx hD hu hC (x_drawable b (bmEBlk _ _ _ (by omega) hb) hk) ?_
  cases h : drawable b with
  | false =>
    have e : paint b = [] := by rw [paint, h]; rfl
    rw [e]
    ((try conv => cbv); (repeat' (first | with_reducible exact mK hD | (with_reducible first | refine mS hD ?_ | refine mJ hL ?_ | refine mT hD ?_ | refine mF hD ?_ | refine mB hD (fun _ => ?_) (fun _ => ?_) | exact True.intro | refine And.intro ?_ ?_) <;> try conv => cbv)); all_goals try exact fx)
    exact DEq.z _ _ _
  | true =>
    have e : paint b = jn b.rows b.rows.length ++ (goS (b.rows.length - 1 - b.row) [65] ++ goS (b.col + 1) [71]) := by rw [paint, h]; rfl
    have hd : 0 ≤ b.row ∧ b.row < b.rows.length ∧ 0 ≤ b.col ∧ b.col < 200 := by simpa [drawable] using h
    have hrl : b.rows.length ≤ 2000000 := by simp only [toEBlk, totL] at ht; omega
    ((try conv => cbv); (repeat' (first | with_reducible exact mK hD | (with_reducible first | refine mS hD ?_ | refine mJ hL ?_ | refine mT hD ?_ | refine mF hD ?_ | refine mB hD (fun _ => ?_) (fun _ => ?_) | exact True.intro | refine And.intro ?_ ?_) <;> try conv => cbv)); all_goals try exact fx)
    refine call_in (fn := Tryd.f50) (c := bodyOf Tryd.f50) envOk (by kernel_rfl) (by kernel_rfl) (by kernel_rfl) (by kernel_rfl) rfl hD hC hL (by kernel_rfl) ?_; intro _
    ((try conv => cbv); (repeat' (first | with_reducible exact mK hD | (with_reducible first | refine mS hD ?_ | refine mJ hL ?_ | refine mT hD ?_ | refine mF hD ?_ | refine mB hD (fun _ => ?_) (fun _ => ?_) | exact True.intro | refine And.intro ?_ ?_) <;> try conv => cbv)); all_goals try exact fx)
    refine loop_st hL b.rows.length (fun k s => s = jn b.rows k) [] (fun k s => [(19, VI (u _ k))]) (fun k s => [(4, .vars [.o 3 0 (D.lenL _ (u _ s))]), (3, oB D u (u _ s))]) rfl ?_ ?_
    · ((try conv => cbv); (repeat' (first | with_reducible exact mK hD | (with_reducible first | refine mS hD ?_ | refine mJ hL ?_ | refine mT hD ?_ | refine mF hD ?_ | refine mB hD (fun _ => ?_) (fun _ => ?_) | exact True.intro | refine And.intro ?_ ?_) <;> try conv => cbv)); all_goals try exact fx)
      (subst hD hu; apply qB; (focus repeat' (first | exact LR.refl | exact LR_bytes | apply mClu | apply mCel | apply mKey | apply mSnp | apply mKRd | apply mLin | apply mHis | apply mBlk | apply mScr | apply mSes | exact zR | exact zB | exact zT | exact zN | exact zClu | exact zCel | exact zCelS | exact zSnp | exact zKey | exact zSes | exact zScr | apply LR.deq | exact LR.nil | apply LR.one | apply LR.rep | apply LR.cat | apply LR.cat' | apply LR.set | exact u8_0 | exact DEq.s _ | (apply str_deq; (repeat' apply sr_cat) <;> rfl) | apply aLe_1 | (apply LR.rfl'; simp only [uid, std, S0]; omega))); all_goals try simp only [uid, std, Int.toNat_natCast, Int.ofNat_eq_natCast])
    · intro k s hkk hs
      have hsl := jn_bd b _ ht k hkk
      rw [← hs] at hsl
      have hrk : k < b.rows.length → (b.rows.getD k []).length ≤ 2000000 := fun h => hb.2 _ (getD_mem _ _ _ h)
      ((try conv => cbv); (repeat' (first | with_reducible exact mK hD | (with_reducible first | refine mS hD ?_ | refine mJ hL ?_ | refine mT hD ?_ | refine mF hD ?_ | refine mB hD (fun _ => ?_) (fun _ => ?_) | exact True.intro | refine And.intro ?_ ?_) <;> try conv => cbv)); all_goals try exact fx)
      · have hkn : k < b.rows.length := lo
        have h0 : 0 < k := lo
        refine call_in (fn := Tryd.f79) (c := bodyOf Tryd.f79) envOk (by kernel_rfl) (by kernel_rfl) (by kernel_rfl) (by kernel_rfl) rfl hD hC hL (by kernel_rfl) ?_; intro _
        ((try conv => cbv); (repeat' (first | with_reducible exact mK hD | (with_reducible first | refine mS hD ?_ | refine mJ hL ?_ | refine mT hD ?_ | refine mF hD ?_ | refine mB hD (fun _ => ?_) (fun _ => ?_) | exact True.intro | refine And.intro ?_ ?_) <;> try conv => cbv)); all_goals try exact fx)
        refine call_in (fn := Tryd.f79) (c := bodyOf Tryd.f79) envOk (by kernel_rfl) (by kernel_rfl) (by kernel_rfl) (by kernel_rfl) rfl hD hC hL (by kernel_rfl) ?_; intro _
        ((try conv => cbv); (repeat' (first | with_reducible exact mK hD | (with_reducible first | refine mS hD ?_ | refine mJ hL ?_ | refine mT hD ?_ | refine mF hD ?_ | refine mB hD (fun _ => ?_) (fun _ => ?_) | exact True.intro | refine And.intro ?_ ?_) <;> try conv => cbv)); all_goals try exact fx)
        refine ⟨k + 1, s ++ [13, 10] ++ b.rows.getD k [], hkn, by rw [hs, jn, if_pos h0], ssem_of ?_, by omega⟩
        ((try conv => cbv); (repeat' (first | with_reducible exact mK hD | (with_reducible first | refine mS hD ?_ | refine mJ hL ?_ | refine mT hD ?_ | refine mF hD ?_ | refine mB hD (fun _ => ?_) (fun _ => ?_) | exact True.intro | refine And.intro ?_ ?_) <;> try conv => cbv)); all_goals try exact fx)
        subst hD hu
        exact LR.deq2 (LR.cat' (LR.cat' LR.refl (LR_bytes' rfl)) LR_bytes)
      · have hkn : k < b.rows.length := lo
        have h0 : ¬ 0 < k := lo
        refine call_in (fn := Tryd.f79) (c := bodyOf Tryd.f79) envOk (by kernel_rfl) (by kernel_rfl) (by kernel_rfl) (by kernel_rfl) rfl hD hC hL (by kernel_rfl) ?_; intro _
        ((try conv => cbv); (repeat' (first | with_reducible exact mK hD | (with_reducible first | refine mS hD ?_ | refine mJ hL ?_ | refine mT hD ?_ | refine mF hD ?_ | refine mB hD (fun _ => ?_) (fun _ => ?_) | exact True.intro | refine And.intro ?_ ?_) <;> try conv => cbv)); all_goals try exact fx)
        refine ⟨k + 1, s ++ b.rows.getD k [], hkn, by rw [hs, jn, if_neg h0, List.append_nil], ssem_of ?_, by omega⟩
        ((try conv => cbv); (repeat' (first | with_reducible exact mK hD | (with_reducible first | refine mS hD ?_ | refine mJ hL ?_ | refine mT hD ?_ | refine mF hD ?_ | refine mB hD (fun _ => ?_) (fun _ => ?_) | exact True.intro | refine And.intro ?_ ?_) <;> try conv => cbv)); all_goals try exact fx)
        subst hD hu
        exact LR.deq2 (LR.cat' LR.refl LR_bytes)
      · have ek : k = b.rows.length := lo
        subst ek
        have hg1 := goS_len ((b.rows.length : Int) - 1 - b.row) [65] (by omega)
        have hg2 := goS_len (b.col + 1) [71] (by omega)
        have hc2 : goS (b.col + 1) [71] = [27, 91] ++ decS (b.col + 1).toNat ++ [71] := by rw [goS, if_neg (by omega)]
        have hl2 := decS_len (b.col + 1).toNat
        refine call_in (fn := Tryd.f80) (c := bodyOf Tryd.f80) envOk (by kernel_rfl) (by kernel_rfl) (by kernel_rfl) (by kernel_rfl) rfl hD hC hL (by kernel_rfl) ?_; intro _
        ((try conv => cbv); (repeat' (first | with_reducible exact mK hD | (with_reducible first | refine mS hD ?_ | refine mJ hL ?_ | refine mT hD ?_ | refine mF hD ?_ | refine mB hD (fun _ => ?_) (fun _ => ?_) | exact True.intro | refine And.intro ?_ ?_) <;> try conv => cbv)); all_goals try exact fx)
        · have hp : 0 < (b.rows.length : Int) - 1 - b.row := lo
          have hc1 : goS ((b.rows.length : Int) - 1 - b.row) [65] = [27, 91] ++ decS ((b.rows.length : Int) - 1 - b.row).toNat ++ [65] := by rw [goS, if_neg (by omega)]
          have hl1 := decS_len ((b.rows.length : Int) - 1 - b.row).toNat
          refine callx hD hu hC (x_Itoa ((b.rows.length : Int) - 1 - b.row).toNat (by omega)) ?_
          ((try conv => cbv); (repeat' (first | with_reducible exact mK hD | (with_reducible first | refine mS hD ?_ | refine mJ hL ?_ | refine mT hD ?_ | refine mF hD ?_ | refine mB hD (fun _ => ?_) (fun _ => ?_) | exact True.intro | refine And.intro ?_ ?_) <;> try conv => cbv)); all_goals try exact fx)
          refine call_in (fn := Tryd.f79) (c := bodyOf Tryd.f79) envOk (by kernel_rfl) (by kernel_rfl) (by kernel_rfl) (by kernel_rfl) rfl hD hC hL (by kernel_rfl) ?_; intro _
          ((try conv => cbv); (repeat' (first | with_reducible exact mK hD | (with_reducible first | refine mS hD ?_ | refine mJ hL ?_ | refine mT hD ?_ | refine mF hD ?_ | refine mB hD (fun _ => ?_) (fun _ => ?_) | exact True.intro | refine And.intro ?_ ?_) <;> try conv => cbv)); all_goals try exact fx)
          refine call_in (fn := Tryd.f80) (c := bodyOf Tryd.f80) envOk (by kernel_rfl) (by kernel_rfl) (by kernel_rfl) (by kernel_rfl) rfl hD hC hL (by kernel_rfl) ?_; intro _
          ((try conv => cbv); (repeat' (first | with_reducible exact mK hD | (with_reducible first | refine mS hD ?_ | refine mJ hL ?_ | refine mT hD ?_ | refine mF hD ?_ | refine mB hD (fun _ => ?_) (fun _ => ?_) | exact True.intro | refine And.intro ?_ ?_) <;> try conv => cbv)); all_goals try exact fx)
          refine callx hD hu hC (x_Itoa (b.col + 1).toNat (by omega)) ?_
          ((try conv => cbv); (repeat' (first | with_reducible exact mK hD | (with_reducible first | refine mS hD ?_ | refine mJ hL ?_ | refine mT hD ?_ | refine mF hD ?_ | refine mB hD (fun _ => ?_) (fun _ => ?_) | exact True.intro | refine And.intro ?_ ?_) <;> try conv => cbv)); all_goals try exact fx)
          refine call_in (fn := Tryd.f79) (c := bodyOf Tryd.f79) envOk (by kernel_rfl) (by kernel_rfl) (by kernel_rfl) (by kernel_rfl) rfl hD hC hL (by kernel_rfl) ?_; intro _
          ((try conv => cbv); (repeat' (first | with_reducible exact mK hD | (with_reducible first | refine mS hD ?_ | refine mJ hL ?_ | refine mT hD ?_ | refine mF hD ?_ | refine mB hD (fun _ => ?_) (fun _ => ?_) | exact True.intro | refine And.intro ?_ ?_) <;> try conv => cbv)); all_goals try exact fx)
          refine call_in (fn := Tryd.f82) (c := bodyOf Tryd.f82) envOk (by kernel_rfl) (by kernel_rfl) (by kernel_rfl) (by kernel_rfl) rfl hD hC hL (by kernel_rfl) ?_; intro _
          ((try conv => cbv); (repeat' (first | with_reducible exact mK hD | (with_reducible first | refine mS hD ?_ | refine mJ hL ?_ | refine mT hD ?_ | refine mF hD ?_ | refine mB hD (fun _ => ?_) (fun _ => ?_) | exact True.intro | refine And.intro ?_ ?_) <;> try conv => cbv)); all_goals try exact fx)
          · ((try subst hD hu); (try simp only [nc] at *); (try simp only [Int.ofNat_eq_natCast] at *); try simp (disch := omega) only [std, uid, S0, e, hs, hc1, hc2] at *)
            try omega
          · subst hD hu
            refine LR.deq2 (LR.to (LR.cat' (LR.cat' LR.refl (LR_bytes' (sr_cat (sr_cat rfl rfl) rfl))) (LR_bytes' (sr_cat (sr_cat rfl rfl) rfl))) ?_)
            simp only [uid, e, hs, hc1, hc2, List.append_assoc]
        · have hp : ¬ 0 < (b.rows.length : Int) - 1 - b.row := lo
          have hc1 : goS ((b.rows.length : Int) - 1 - b.row) [65] = [] := by rw [goS, if_pos (by omega)]
          refine call_in (fn := Tryd.f80) (c := bodyOf Tryd.f80) envOk (by kernel_rfl) (by kernel_rfl) (by kernel_rfl) (by kernel_rfl) rfl hD hC hL (by kernel_rfl) ?_; intro _
          ((try conv => cbv); (repeat' (first | with_reducible exact mK hD | (with_reducible first | refine mS hD ?_ | refine mJ hL ?_ | refine mT hD ?_ | refine mF hD ?_ | refine mB hD (fun _ => ?_) (fun _ => ?_) | exact True.intro | refine And.intro ?_ ?_) <;> try conv => cbv)); all_goals try exact fx)
          refine callx hD hu hC (x_Itoa (b.col + 1).toNat (by omega)) ?_
          ((try conv => cbv); (repeat' (first | with_reducible exact mK hD | (with_reducible first | refine mS hD ?_ | refine mJ hL ?_ | refine mT hD ?_ | refine mF hD ?_ | refine mB hD (fun _ => ?_) (fun _ => ?_) | exact True.intro | refine And.intro ?_ ?_) <;> try conv => cbv)); all_goals try exact fx)
          refine call_in (fn := Tryd.f79) (c := bodyOf Tryd.f79) envOk (by kernel_rfl) (by kernel_rfl) (by kernel_rfl) (by kernel_rfl) rfl hD hC hL (by kernel_rfl) ?_; intro _
          ((try conv => cbv); (repeat' (first | with_reducible exact mK hD | (with_reducible first | refine mS hD ?_ | refine mJ hL ?_ | refine mT hD ?_ | refine mF hD ?_ | refine mB hD (fun _ => ?_) (fun _ => ?_) | exact True.intro | refine And.intro ?_ ?_) <;> try conv => cbv)); all_goals try exact fx)
          refine call_in (fn := Tryd.f82) (c := bodyOf Tryd.f82) envOk (by kernel_rfl) (by kernel_rfl) (by kernel_rfl) (by kernel_rfl) rfl hD hC hL (by kernel_rfl) ?_; intro _
          ((try conv => cbv); (repeat' (first | with_reducible exact mK hD | (with_reducible first | refine mS hD ?_ | refine mJ hL ?_ | refine mT hD ?_ | refine mF hD ?_ | refine mB hD (fun _ => ?_) (fun _ => ?_) | exact True.intro | refine And.intro ?_ ?_) <;> try conv => cbv)); all_goals try exact fx)
          · ((try subst hD hu); (try simp only [nc] at *); (try simp only [Int.ofNat_eq_natCast] at *); try simp (disch := omega) only [std, uid, S0, e, hs, hc1, hc2] at *)
            try omega
          · subst hD hu
            refine LR.deq2 (LR.to (LR.cat' LR.refl (LR_bytes' (sr_cat (sr_cat rfl rfl) rfl))) ?_)
            simp only [uid, e, hs, hc1, hc2, List.nil_append]
end Go.AW
/- Erase and Redraw of the specification. -/
set_option linter.unusedVariables false
set_option linter.unusedSimpArgs false
namespace Go.AW
open Go.Proofs
set_option maxRecDepth 100000
set_option maxHeartbeats 8000000
theorem x_specErase (b : Blk) (hb : bdEBlk 2000000 b) (hk : okBlk b) (ht : toEBlk b ≤ 2000000) : PX Tryd.prog 10 (fun D u => [.r (.a (rBlk D u (u _ b)))]) (fun D u => [.c (lB D u (u _ (erase b)))]) (fun D u => []) := by
  have hb1 := hb.1
  have hb2 := hb.2
  refine px_of_awp (fn := Tryd.f10) (c := bodyOf Tryd.f10) envOk (by kernel_rfl) (by kernel_rfl) (by kernel_rfl) (by kernel_rfl) rfl (by kernel_rfl) (by kernel_rfl) ?_
  intro w0 mine D u C L hD hu hC hL
  ((try conv => cbv); (repeat' (first | with_reducible exact mK hD | (with_reducible first | refine mS hD ?_ | refine mT hD ?_ | refine mF hD ?_ | refine mB hD (fun _ => ?_) (fun _ => ?_) | exact True.intro | refine And.intro ?_ ?_) <;> try conv => cbv)); all_goals try exact fx)
  refine callx hD hu hC (x_l6Ok b (bmEBlk _ _ _ (by omega) hb) hk) ?_
  cases h : drawable b with
  | false =>
    have e : erase b = [] := by rw [erase, h]; rfl
    rw [e]
    ((try conv => cbv); (repeat' (first | with_reducible exact mK hD | (with_reducible first | refine mS hD ?_ | refine mJ hL ?_ | refine mT hD ?_ | refine mF hD ?_ | refine mB hD (fun _ => ?_) (fun _ => ?_) | exact True.intro | refine And.intro ?_ ?_) <;> try conv => cbv)); all_goals try exact fx)
    (subst hD hu; apply qB; (focus repeat' (first | exact LR.refl | exact LR_bytes | apply mClu | apply mCel | apply mKey | apply mSnp | apply mKRd | apply mLin | apply mHis | apply mBlk | apply mScr | apply mSes | exact zR | exact zB | exact zT | exact zN | exact zClu | exact zCel | exact zCelS | exact zSnp | exact zKey | exact zSes | exact zScr | apply LR.deq | exact LR.nil | apply LR.one | apply LR.rep | apply LR.cat | apply LR.cat' | apply LR.set | exact u8_0 | exact DEq.s _ | (apply str_deq; (repeat' apply sr_cat) <;> rfl) | apply aLe_1 | (apply LR.rfl'; simp only [uid, std, S0]; omega))); all_goals try simp only [uid, std, Int.toNat_natCast, Int.ofNat_eq_natCast])
  | true =>
    have e : erase b = [13] ++ goS b.row [65] ++ [27, 91, 74] := by rw [erase, h]; rfl
    have hd : 0 ≤ b.row ∧ b.row < b.rows.length ∧ 0 ≤ b.col ∧ b.col < 200 := by simpa [drawable] using h
    have hrl : b.rows.length ≤ 2000000 := by simp only [toEBlk, totL] at ht; omega
    have hg1 := goS_len b.row [65] (by omega)
    ((try conv => cbv); (repeat' (first | with_reducible exact mK hD | (with_reducible first | refine mS hD ?_ | refine mJ hL ?_ | refine mT hD ?_ | refine mF hD ?_ | refine mB hD (fun _ => ?_) (fun _ => ?_) | exact True.intro | refine And.intro ?_ ?_) <;> try conv => cbv)); all_goals try exact fx)
    refine callx hD hu hC (x_l6Go b.row [65] (by omega) (by simp)) ?_
    ((try conv => cbv); (repeat' (first | with_reducible exact mK hD | (with_reducible first | refine mS hD ?_ | refine mJ hL ?_ | refine mT hD ?_ | refine mF hD ?_ | refine mB hD (fun _ => ?_) (fun _ => ?_) | exact True.intro | refine And.intro ?_ ?_) <;> try conv => cbv)); all_goals try exact fx)
    · ((try subst hD hu); (try simp only [nc] at *); (try simp only [Int.ofNat_eq_natCast] at *); try simp (disch := omega) only [std, uid, S0, e] at *)
    · subst hD hu
      exact LR.deq2 (LR.to (LR_bytes' (sr_cat (sr_cat rfl rfl) rfl)) e.symm)
/-- Blocks whose rows are the same. -/
def redraw (a b : Blk) : Str :=
  if drawable a && drawable b then (if a.rows = b.rows then goS (a.row - b.row) [65] ++ goS (b.row - a.row) [66] ++ (if a.col = b.col then [] else goS (b.col + 1) [71]) else erase a ++ paint b) else []
theorem redraw_tot (a b : Blk) {N : Nat} (ha : toEBlk a ≤ N) (hb : toEBlk b ≤ N) : (redraw a b).length ≤ 20 * N + 3000 := by
  unfold redraw
  split
  · rename_i hd
    simp only [Bool.and_eq_true] at hd
    have ha' : 0 ≤ a.row ∧ a.row < a.rows.length ∧ 0 ≤ a.col ∧ a.col < 200 := by simpa [drawable] using hd.1
    have hb' : 0 ≤ b.row ∧ b.row < b.rows.length ∧ 0 ≤ b.col ∧ b.col < 200 := by simpa [drawable] using hd.2
    split
    · have h1 := goS_len2 (a.row - b.row) [65]
      have h2 := goS_len2 (b.row - a.row) [66]
      have h3 := goS_len2 (b.col + 1) [71]
      simp only [toEBlk, totL] at ha hb
      simp only [List.length_cons, List.length_nil] at h1 h2 h3
      simp only [List.length_append]
      split
      · simp only [List.length_nil]; omega
      · omega
    · have h1 := erase_tot a ha
      have h2 := paint_tot b hb
      rw [List.length_append]
      omega
  · simp
theorem ext_T {a b : List Str} (h : a.length = b.length) (he : ∀ i, i < a.length → a.getD i [] = b.getD i []) : a = b := by
  refine List.ext_getElem h fun i h1 h2 => ?_
  have := he i h1
  simp only [List.getD_eq_getElem?_getD, List.getElem?_eq_getElem h1, List.getElem?_eq_getElem h2, Option.getD_some] at this
  exact this
theorem x_l6Same (a b : List Str) (ha : a.length ≤ 100000000) (hb : b.length ≤ 100000000) : PX Tryd.prog 51 (fun D u => [.r (.c (lT D u (u _ a))), .r (.c (lT D u (u _ b)))]) (fun D u => [RB (u _ (decide (a = b)))]) (fun D u => []) := by
  refine px_of_awp (fn := Tryd.f51) (c := bodyOf Tryd.f51) envOk (by kernel_rfl) (by kernel_rfl) (by kernel_rfl) (by kernel_rfl) rfl (by kernel_rfl) (by kernel_rfl) ?_
  intro w0 mine D u C L hD hu hC hL
  ((try conv => cbv); (repeat' (first | with_reducible exact mK hD | (with_reducible first | refine mS hD ?_ | refine mJ hL ?_ | refine mT hD ?_ | refine mF hD ?_ | refine mB hD (fun _ => ?_) (fun _ => ?_) | exact True.intro | refine And.intro ?_ ?_) <;> try conv => cbv)); all_goals try exact fx)
  · have h : ¬ a = b := fun e => by subst e; ((try subst hD hu); (try simp only [nc] at *); (try simp only [Int.ofNat_eq_natCast] at *); try simp (disch := omega) only [std, uid, S0] at *); try omega
    ((try subst hD hu); (try simp only [nc] at *); (try simp only [Int.ofNat_eq_natCast] at *); try simp (disch := omega) only [std, uid, S0, decide_eq_false h] at *)
  have hl : a.length = b.length := lo
  refine loop_st hL a.length (fun k (_ : Unit) => ∀ i, i < k → a.getD i [] = b.getD i []) () (fun k _ => [(5, VI (u _ k))]) (fun k _ => []) (fun i h => absurd h (Nat.not_lt_zero i)) ?_ ?_
  · ((try conv => cbv); (repeat' (first | with_reducible exact mK hD | (with_reducible first | refine mS hD ?_ | refine mJ hL ?_ | refine mT hD ?_ | refine mF hD ?_ | refine mB hD (fun _ => ?_) (fun _ => ?_) | exact True.intro | refine And.intro ?_ ?_) <;> try conv => cbv)); all_goals try exact fx)
  · intro k _ hk hi
    ((try conv => cbv); (repeat' (first | with_reducible exact mK hD | (with_reducible first | refine mS hD ?_ | refine mJ hL ?_ | refine mT hD ?_ | refine mF hD ?_ | refine mB hD (fun _ => ?_) (fun _ => ?_) | exact True.intro | refine And.intro ?_ ?_) <;> try conv => cbv)); all_goals try exact fx)
    · have h : ¬ a = b := fun e => by subst e; ((try subst hD hu); (try simp only [nc] at *); (try simp only [Int.ofNat_eq_natCast] at *); try simp (disch := omega) only [std, uid, S0] at *); try omega
      ((try subst hD hu); (try simp only [nc] at *); (try simp only [Int.ofNat_eq_natCast] at *); try simp (disch := omega) only [std, uid, S0, decide_eq_false h] at *)
    · have hkn : k < a.length := lo
      have he : a.getD k [] = b.getD k [] := by ((try subst hD hu); (try simp only [nc] at *); (try simp only [Int.ofNat_eq_natCast] at *); try simp (disch := omega) only [std, uid, S0] at *); try assumption
      refine ⟨k + 1, (), hkn, fun i h => ?_, ssem_of ?_, by omega⟩
      · rcases Nat.lt_or_ge i k with h1 | h1
        · exact hi i h1
        · obtain rfl : i = k := by omega
          exact he
      · ((try conv => cbv); (repeat' (first | with_reducible exact mK hD | (with_reducible first | refine mS hD ?_ | refine mJ hL ?_ | refine mT hD ?_ | refine mF hD ?_ | refine mB hD (fun _ => ?_) (fun _ => ?_) | exact True.intro | refine And.intro ?_ ?_) <;> try conv => cbv)); all_goals try exact fx)
    · have h : a = b := ext_T hl fun i h => hi i lo
      ((try subst hD hu); (try simp only [nc] at *); (try simp only [Int.ofNat_eq_natCast] at *); try simp (disch := omega) only [std, uid, S0, decide_eq_true h] at *)
end Go.AW
/- Erase of the program. -/
set_option linter.unusedVariables false
set_option linter.unusedSimpArgs false
namespace Go.AW
open Go.Proofs
set_option maxRecDepth 100000
set_option maxHeartbeats 8000000
theorem x_implErase (b : Blk) (hb : bdEBlk 2000000 b) (hk : okBlk b) (ht : toEBlk b ≤ 2000000) : PX Tryd.prog 12 (fun D u => [.r (.a (rBlk D u (u _ b)))]) (fun D u => [.c (lB D u (u _ (erase b)))]) (fun D u => []) := by
  have hb1 := hb.1
  have hb2 := hb.2
  refine px_of_awp (fn := Tryd.f12) (c := bodyOf Tryd.f12) envOk (by kernel_rfl) (by kernel_rfl) (by kernel_rfl) (by kernel_rfl) rfl (by kernel_rfl) (by kernel_rfl) ?_
  intro w0 mine D u C L hD hu hC hL
  ((try conv => cbv); (repeat' (first | with_reducible exact mK hD | (with_reducible first | refine mS hD ?_ | refine mT hD ?_ | refine mF hD ?_ | refine mB hD (fun _ => ?_) (fun _ => ?_) | exact True.intro | refine And.intro ?_ ?_) <;> try conv => cbv)); all_goals try exact fx)
  refine callx hD hu hC (x_drawable b (bmEBlk _ _ _ (by omega) hb) hk) ?_
  cases h : drawable b with
  | false =>
    have e : erase b = [] := by rw [erase, h]; rfl
    rw [e]
    ((try conv => cbv); (repeat' (first | with_reducible exact mK hD | (with_reducible first | refine mS hD ?_ | refine mJ hL ?_ | refine mT hD ?_ | refine mF hD ?_ | refine mB hD (fun _ => ?_) (fun _ => ?_) | exact True.intro | refine And.intro ?_ ?_) <;> try conv => cbv)); all_goals try exact fx)
    exact DEq.z _ _ _
  | true =>
    have e : erase b = [13] ++ goS b.row [65] ++ [27, 91, 74] := by rw [erase, h]; rfl
    have hd : 0 ≤ b.row ∧ b.row < b.rows.length ∧ 0 ≤ b.col ∧ b.col < 200 := by simpa [drawable] using h
    have hrl : b.rows.length ≤ 2000000 := by simp only [toEBlk, totL] at ht; omega
    have hl1 := decS_len b.row.toNat
    ((try conv => cbv); (repeat' (first | with_reducible exact mK hD | (with_reducible first | refine mS hD ?_ | refine mJ hL ?_ | refine mT hD ?_ | refine mF hD ?_ | refine mB hD (fun _ => ?_) (fun _ => ?_) | exact True.intro | refine And.intro ?_ ?_) <;> try conv => cbv)); all_goals try exact fx)
    refine call_in (fn := Tryd.f50) (c := bodyOf Tryd.f50) envOk (by kernel_rfl) (by kernel_rfl) (by kernel_rfl) (by kernel_rfl) rfl hD hC hL (by kernel_rfl) ?_; intro _
    ((try conv => cbv); (repeat' (first | with_reducible exact mK hD | (with_reducible first | refine mS hD ?_ | refine mJ hL ?_ | refine mT hD ?_ | refine mF hD ?_ | refine mB hD (fun _ => ?_) (fun _ => ?_) | exact True.intro | refine And.intro ?_ ?_) <;> try conv => cbv)); all_goals try exact fx)
    refine call_in (fn := Tryd.f79) (c := bodyOf Tryd.f79) envOk (by kernel_rfl) (by kernel_rfl) (by kernel_rfl) (by kernel_rfl) rfl hD hC hL (by kernel_rfl) ?_; intro _
    ((try conv => cbv); (repeat' (first | with_reducible exact mK hD | (with_reducible first | refine mS hD ?_ | refine mJ hL ?_ | refine mT hD ?_ | refine mF hD ?_ | refine mB hD (fun _ => ?_) (fun _ => ?_) | exact True.intro | refine And.intro ?_ ?_) <;> try conv => cbv)); all_goals try exact fx)
    refine call_in (fn := Tryd.f80) (c := bodyOf Tryd.f80) envOk (by kernel_rfl) (by kernel_rfl) (by kernel_rfl) (by kernel_rfl) rfl hD hC hL (by kernel_rfl) ?_; intro _
    ((try conv => cbv); (repeat' (first | with_reducible exact mK hD | (with_reducible first | refine mS hD ?_ | refine mJ hL ?_ | refine mT hD ?_ | refine mF hD ?_ | refine mB hD (fun _ => ?_) (fun _ => ?_) | exact True.intro | refine And.intro ?_ ?_) <;> try conv => cbv)); all_goals try exact fx)
    · have hc1 : goS b.row [65] = [27, 91] ++ decS b.row.toNat ++ [65] := by rw [goS, if_neg lo]
      refine callx hD hu hC (x_Itoa b.row.toNat (by omega)) ?_
      ((try conv => cbv); (repeat' (first | with_reducible exact mK hD | (with_reducible first | refine mS hD ?_ | refine mJ hL ?_ | refine mT hD ?_ | refine mF hD ?_ | refine mB hD (fun _ => ?_) (fun _ => ?_) | exact True.intro | refine And.intro ?_ ?_) <;> try conv => cbv)); all_goals try exact fx)
      refine call_in (fn := Tryd.f79) (c := bodyOf Tryd.f79) envOk (by kernel_rfl) (by kernel_rfl) (by kernel_rfl) (by kernel_rfl) rfl hD hC hL (by kernel_rfl) ?_; intro _
      ((try conv => cbv); (repeat' (first | with_reducible exact mK hD | (with_reducible first | refine mS hD ?_ | refine mJ hL ?_ | refine mT hD ?_ | refine mF hD ?_ | refine mB hD (fun _ => ?_) (fun _ => ?_) | exact True.intro | refine And.intro ?_ ?_) <;> try conv => cbv)); all_goals try exact fx)
      refine call_in (fn := Tryd.f79) (c := bodyOf Tryd.f79) envOk (by kernel_rfl) (by kernel_rfl) (by kernel_rfl) (by kernel_rfl) rfl hD hC hL (by kernel_rfl) ?_; intro _
      ((try conv => cbv); (repeat' (first | with_reducible exact mK hD | (with_reducible first | refine mS hD ?_ | refine mJ hL ?_ | refine mT hD ?_ | refine mF hD ?_ | refine mB hD (fun _ => ?_) (fun _ => ?_) | exact True.intro | refine And.intro ?_ ?_) <;> try conv => cbv)); all_goals try exact fx)
      refine call_in (fn := Tryd.f82) (c := bodyOf Tryd.f82) envOk (by kernel_rfl) (by kernel_rfl) (by kernel_rfl) (by kernel_rfl) rfl hD hC hL (by kernel_rfl) ?_; intro _
      ((try conv => cbv); (repeat' (first | with_reducible exact mK hD | (with_reducible first | refine mS hD ?_ | refine mJ hL ?_ | refine mT hD ?_ | refine mF hD ?_ | refine mB hD (fun _ => ?_) (fun _ => ?_) | exact True.intro | refine And.intro ?_ ?_) <;> try conv => cbv)); all_goals try exact fx)
      · ((try subst hD hu); (try simp only [nc] at *); (try simp only [Int.ofNat_eq_natCast] at *); try simp (disch := omega) only [std, uid, S0, e, hc1] at *)
        try omega
      · subst hD hu
        refine LR.deq2 (LR.to (LR.cat' (LR.cat' (LR.cat' LR.nil (LR_bytes' rfl)) (LR_bytes' (sr_cat (sr_cat rfl rfl) rfl))) (LR_bytes' rfl)) ?_)
        simp only [uid, e, hc1, List.nil_append]
    · have hc1 : goS b.row [65] = [] := by rw [goS, if_pos lo]
      refine call_in (fn := Tryd.f79) (c := bodyOf Tryd.f79) envOk (by kernel_rfl) (by kernel_rfl) (by kernel_rfl) (by kernel_rfl) rfl hD hC hL (by kernel_rfl) ?_; intro _
      ((try conv => cbv); (repeat' (first | with_reducible exact mK hD | (with_reducible first | refine mS hD ?_ | refine mJ hL ?_ | refine mT hD ?_ | refine mF hD ?_ | refine mB hD (fun _ => ?_) (fun _ => ?_) | exact True.intro | refine And.intro ?_ ?_) <;> try conv => cbv)); all_goals try exact fx)
      refine call_in (fn := Tryd.f82) (c := bodyOf Tryd.f82) envOk (by kernel_rfl) (by kernel_rfl) (by kernel_rfl) (by kernel_rfl) rfl hD hC hL (by kernel_rfl) ?_; intro _
      ((try conv => cbv); (repeat' (first | with_reducible exact mK hD | (with_reducible first | refine mS hD ?_ | refine mJ hL ?_ | refine mT hD ?_ | refine mF hD ?_ | refine mB hD (fun _ => ?_) (fun _ => ?_) | exact True.intro | refine And.intro ?_ ?_) <;> try conv => cbv)); all_goals try exact fx)
      · ((try subst hD hu); (try simp only [nc] at *); (try simp only [Int.ofNat_eq_natCast] at *); try simp (disch := omega) only [std, uid, S0, e, hc1] at *)
        try omega
      · subst hD hu
        refine LR.deq2 (LR.to (LR.cat' (LR.cat' LR.nil (LR_bytes' rfl)) (LR_bytes' rfl)) ?_)
        simp only [uid, e, hc1, List.nil_append, List.append_nil]
end Go.AW
/- Redraw. -/
set_option linter.unusedVariables false
set_option linter.unusedSimpArgs false
namespace Go.AW
open Go.Proofs
set_option maxRecDepth 100000
set_option maxHeartbeats 8000000
theorem x_slicesEqual (a b : List Str) (ha : a.length ≤ 100000000) (hb : b.length ≤ 100000000) : PX Tryd.prog 52 (fun D u => [.r (.c (lT D u (u _ a))), .r (.c (lT D u (u _ b)))]) (fun D u => [RB (u _ (decide (a = b)))]) (fun D u => []) := by
  refine px_of_awp (fn := Tryd.f52) (c := bodyOf Tryd.f52) envOk (by kernel_rfl) (by kernel_rfl) (by kernel_rfl) (by kernel_rfl) rfl (by kernel_rfl) (by kernel_rfl) ?_
  intro w0 mine D u C L hD hu hC hL
  ((try conv => cbv); (repeat' (first | with_reducible exact mK hD | (with_reducible first | refine mS hD ?_ | refine mJ hL ?_ | refine mT hD ?_ | refine mF hD ?_ | refine mB hD (fun _ => ?_) (fun _ => ?_) | exact True.intro | refine And.intro ?_ ?_) <;> try conv => cbv)); all_goals try exact fx)
  · have h : ¬ a = b := fun e => by subst e; ((try subst hD hu); (try simp only [nc] at *); (try simp only [Int.ofNat_eq_natCast] at *); try simp (disch := omega) only [std, uid, S0] at *); try omega
    ((try subst hD hu); (try simp only [nc] at *); (try simp only [Int.ofNat_eq_natCast] at *); try simp (disch := omega) only [std, uid, S0, decide_eq_false h] at *)
  have hl : a.length = b.length := lo
  refine loop_st hL a.length (fun k (_ : Unit) => ∀ i, i < k → a.getD i [] = b.getD i []) () (fun k _ => [(5, .bad), (13, VI (u _ k))]) (fun k _ => []) (fun i h => absurd h (Nat.not_lt_zero i)) ?_ ?_
  · ((try conv => cbv); (repeat' (first | with_reducible exact mK hD | (with_reducible first | refine mS hD ?_ | refine mJ hL ?_ | refine mT hD ?_ | refine mF hD ?_ | refine mB hD (fun _ => ?_) (fun _ => ?_) | exact True.intro | refine And.intro ?_ ?_) <;> try conv => cbv)); all_goals try exact fx)
  · intro k _ hk hi
    ((try conv => cbv); (repeat' (first | with_reducible exact mK hD | (with_reducible first | refine mS hD ?_ | refine mJ hL ?_ | refine mT hD ?_ | refine mF hD ?_ | refine mB hD (fun _ => ?_) (fun _ => ?_) | exact True.intro | refine And.intro ?_ ?_) <;> try conv => cbv)); all_goals try exact fx)
    · have h : ¬ a = b := fun e => by subst e; ((try subst hD hu); (try simp only [nc] at *); (try simp only [Int.ofNat_eq_natCast] at *); try simp (disch := omega) only [std, uid, S0] at *); try omega
      ((try subst hD hu); (try simp only [nc] at *); (try simp only [Int.ofNat_eq_natCast] at *); try simp (disch := omega) only [std, uid, S0, decide_eq_false h] at *)
    · have hkn : k < a.length := lo
      have he : a.getD k [] = b.getD k [] := by ((try subst hD hu); (try simp only [nc] at *); (try simp only [Int.ofNat_eq_natCast] at *); try simp (disch := omega) only [std, uid, S0] at *); try assumption
      refine ⟨k + 1, (), hkn, fun i h => ?_, ssem_of ?_, by omega⟩
      · rcases Nat.lt_or_ge i k with h1 | h1
        · exact hi i h1
        · obtain rfl : i = k := by omega
          exact he
      · ((try conv => cbv); (repeat' (first | with_reducible exact mK hD | (with_reducible first | refine mS hD ?_ | refine mJ hL ?_ | refine mT hD ?_ | refine mF hD ?_ | refine mB hD (fun _ => ?_) (fun _ => ?_) | exact True.intro | refine And.intro ?_ ?_) <;> try conv => cbv)); all_goals try exact fx)
    · have h : a = b := ext_T hl fun i h => hi i lo
      ((try subst hD hu); (try simp only [nc] at *); (try simp only [Int.ofNat_eq_natCast] at *); try simp (disch := omega) only [std, uid, S0, decide_eq_true h] at *)
theorem x_specRedraw (a b : Blk) (ha : bdEBlk 2000000 a) (hka : okBlk a) (hta : toEBlk a ≤ 2000000) (hb : bdEBlk 2000000 b) (hkb : okBlk b) (htb : toEBlk b ≤ 2000000) : PX Tryd.prog 20 (fun D u => [.r (.a (rBlk D u (u _ a))), .r (.a (rBlk D u (u _ b)))]) (fun D u => [.c (lB D u (u _ (redraw a b)))]) (fun D u => []) := by
  have ha1 := ha.1
  have hb1 := hb.1
  have hra : a.rows.length ≤ 2000000 := by simp only [toEBlk, totL] at hta; omega
  have hrb : b.rows.length ≤ 2000000 := by simp only [toEBlk, totL] at htb; omega
  refine px_of_awp (fn := Tryd.f20) (c := bodyOf Tryd.f20) envOk (by kernel_rfl) (by kernel_rfl) (by kernel_rfl) (by kernel_rfl) rfl (by kernel_rfl) (by kernel_rfl) ?_
  intro w0 mine D u C L hD hu hC hL
  ((try conv => cbv); (repeat' (first | with_reducible exact mK hD | (with_reducible first | refine mS hD ?_ | refine mT hD ?_ | refine mF hD ?_ | refine mB hD (fun _ => ?_) (fun _ => ?_) | exact True.intro | refine And.intro ?_ ?_) <;> try conv => cbv)); all_goals try exact fx)
  refine callx hD hu hC (x_l6Ok a (bmEBlk _ _ _ (by omega) ha) hka) ?_
  cases h : drawable a with
  | false =>
    have e : redraw a b = [] := by rw [redraw, h]; rfl
    rw [e]
    ((try conv => cbv); (repeat' (first | with_reducible exact mK hD | (with_reducible first | refine mS hD ?_ | refine mJ hL ?_ | refine mT hD ?_ | refine mF hD ?_ | refine mB hD (fun _ => ?_) (fun _ => ?_) | exact True.intro | refine And.intro ?_ ?_) <;> try conv => cbv)); all_goals try exact fx)
    (subst hD hu; apply qB; (focus repeat' (first | exact LR.refl | exact LR_bytes | apply mClu | apply mCel | apply mKey | apply mSnp | apply mKRd | apply mLin | apply mHis | apply mBlk | apply mScr | apply mSes | exact zR | exact zB | exact zT | exact zN | exact zClu | exact zCel | exact zCelS | exact zSnp | exact zKey | exact zSes | exact zScr | apply LR.deq | exact LR.nil | apply LR.one | apply LR.rep | apply LR.cat | apply LR.cat' | apply LR.set | exact u8_0 | exact DEq.s _ | (apply str_deq; (repeat' apply sr_cat) <;> rfl) | apply aLe_1 | (apply LR.rfl'; simp only [uid, std, S0]; omega))); all_goals try simp only [uid, std, Int.toNat_natCast, Int.ofNat_eq_natCast])
  | true =>
    have hd : 0 ≤ a.row ∧ a.row < a.rows.length ∧ 0 ≤ a.col ∧ a.col < 200 := by simpa [drawable] using h
    ((try conv => cbv); (repeat' (first | with_reducible exact mK hD | (with_reducible first | refine mS hD ?_ | refine mJ hL ?_ | refine mT hD ?_ | refine mF hD ?_ | refine mB hD (fun _ => ?_) (fun _ => ?_) | exact True.intro | refine And.intro ?_ ?_) <;> try conv => cbv)); all_goals try exact fx)
    refine callx hD hu hC (x_l6Ok b (bmEBlk _ _ _ (by omega) hb) hkb) ?_
    cases h' : drawable b with
    | false =>
      have e : redraw a b = [] := by rw [redraw, h, h']; rfl
      rw [e]
      ((try conv => cbv); (repeat' (first | with_reducible exact mK hD | (with_reducible first | refine mS hD ?_ | refine mJ hL ?_ | refine mT hD ?_ | refine mF hD ?_ | refine mB hD (fun _ => ?_) (fun _ => ?_) | exact True.intro | refine And.intro ?_ ?_) <;> try conv => cbv)); all_goals try exact fx)
      (subst hD hu; apply qB; (focus repeat' (first | exact LR.refl | exact LR_bytes | apply mClu | apply mCel | apply mKey | apply mSnp | apply mKRd | apply mLin | apply mHis | apply mBlk | apply mScr | apply mSes | exact zR | exact zB | exact zT | exact zN | exact zClu | exact zCel | exact zCelS | exact zSnp | exact zKey | exact zSes | exact zScr | apply LR.deq | exact LR.nil | apply LR.one | apply LR.rep | apply LR.cat | apply LR.cat' | apply LR.set | exact u8_0 | exact DEq.s _ | (apply str_deq; (repeat' apply sr_cat) <;> rfl) | apply aLe_1 | (apply LR.rfl'; simp only [uid, std, S0]; omega))); all_goals try simp only [uid, std, Int.toNat_natCast, Int.ofNat_eq_natCast])
    | true =>
      have hd' : 0 ≤ b.row ∧ b.row < b.rows.length ∧ 0 ≤ b.col ∧ b.col < 200 := by simpa [drawable] using h'
      have e0 : redraw a b = if a.rows = b.rows then goS (a.row - b.row) [65] ++ goS (b.row - a.row) [66] ++ (if a.col = b.col then [] else goS (b.col + 1) [71]) else erase a ++ paint b := by rw [redraw, h, h']; rfl
      ((try conv => cbv); (repeat' (first | with_reducible exact mK hD | (with_reducible first | refine mS hD ?_ | refine mJ hL ?_ | refine mT hD ?_ | refine mF hD ?_ | refine mB hD (fun _ => ?_) (fun _ => ?_) | exact True.intro | refine And.intro ?_ ?_) <;> try conv => cbv)); all_goals try exact fx)
      refine callx hD hu hC (x_l6Same a.rows b.rows (by omega) (by omega)) ?_
      by_cases hs : a.rows = b.rows
      · rw [decide_eq_true hs]
        rw [if_pos hs] at e0
        have hg1 := goS_len (a.row - b.row) [65] (by omega)
        have hg2 := goS_len (b.row - a.row) [66] (by omega)
        have hg3 := goS_len (b.col + 1) [71] (by omega)
        ((try conv => cbv); (repeat' (first | with_reducible exact mK hD | (with_reducible first | refine mS hD ?_ | refine mJ hL ?_ | refine mT hD ?_ | refine mF hD ?_ | refine mB hD (fun _ => ?_) (fun _ => ?_) | exact True.intro | refine And.intro ?_ ?_) <;> try conv => cbv)); all_goals try exact fx)
        refine callx hD hu hC (x_l6Go (a.row - b.row) [65] (by omega) (by simp)) ?_
        ((try conv => cbv); (repeat' (first | with_reducible exact mK hD | (with_reducible first | refine mS hD ?_ | refine mJ hL ?_ | refine mT hD ?_ | refine mF hD ?_ | refine mB hD (fun _ => ?_) (fun _ => ?_) | exact True.intro | refine And.intro ?_ ?_) <;> try conv => cbv)); all_goals try exact fx)
        refine callx hD hu hC (x_l6Go (b.row - a.row) [66] (by omega) (by simp)) ?_
        ((try conv => cbv); (repeat' (first | with_reducible exact mK hD | (with_reducible first | refine mS hD ?_ | refine mJ hL ?_ | refine mT hD ?_ | refine mF hD ?_ | refine mB hD (fun _ => ?_) (fun _ => ?_) | exact True.intro | refine And.intro ?_ ?_) <;> try conv => cbv)); all_goals try exact fx)
        · have hcol : ¬ a.col = b.col := lo
          refine callx hD hu hC (x_l6Go (b.col + 1) [71] (by omega) (by simp)) ?_
          rw [if_neg hcol] at e0
          ((try conv => cbv); (repeat' (first | with_reducible exact mK hD | (with_reducible first | refine mS hD ?_ | refine mJ hL ?_ | refine mT hD ?_ | refine mF hD ?_ | refine mB hD (fun _ => ?_) (fun _ => ?_) | exact True.intro | refine And.intro ?_ ?_) <;> try conv => cbv)); all_goals try exact fx)
          · ((try subst hD hu); (try simp only [nc] at *); (try simp only [Int.ofNat_eq_natCast] at *); try simp (disch := omega) only [std, uid, S0, e0] at *)
          · subst hD hu
            exact LR.deq2 (LR.to (LR_bytes' (sr_cat (sr_cat rfl rfl) rfl)) e0.symm)
        · have hcol : a.col = b.col := lo
          rw [if_pos hcol, List.append_nil] at e0
          ((try subst hD hu); (try simp only [nc] at *); (try simp only [Int.ofNat_eq_natCast] at *); try simp (disch := omega) only [std, uid, S0, e0] at *)
        · have hcol : a.col = b.col := lo
          rw [if_pos hcol, List.append_nil] at e0
          subst hD hu
          exact LR.deq2 (LR.to (LR_bytes' (sr_cat rfl rfl)) e0.symm)
      · rw [decide_eq_false hs]
        rw [if_neg hs] at e0
        ((try conv => cbv); (repeat' (first | with_reducible exact mK hD | (with_reducible first | refine mS hD ?_ | refine mJ hL ?_ | refine mT hD ?_ | refine mF hD ?_ | refine mB hD (fun _ => ?_) (fun _ => ?_) | exact True.intro | refine And.intro ?_ ?_) <;> try conv => cbv)); all_goals try exact fx)
        refine callx hD hu hC (x_specErase a ha hka hta) ?_
        ((try conv => cbv); (repeat' (first | with_reducible exact mK hD | (with_reducible first | refine mS hD ?_ | refine mJ hL ?_ | refine mT hD ?_ | refine mF hD ?_ | refine mB hD (fun _ => ?_) (fun _ => ?_) | exact True.intro | refine And.intro ?_ ?_) <;> try conv => cbv)); all_goals try exact fx)
        refine callx hD hu hC (x_specPaint b hb hkb htb) ?_
        ((try conv => cbv); (repeat' (first | with_reducible exact mK hD | (with_reducible first | refine mS hD ?_ | refine mJ hL ?_ | refine mT hD ?_ | refine mF hD ?_ | refine mB hD (fun _ => ?_) (fun _ => ?_) | exact True.intro | refine And.intro ?_ ?_) <;> try conv => cbv)); all_goals try exact fx)
        · have h1 := erase_tot a (Nat.le_refl (toEBlk a))
          have h2 := paint_tot b (Nat.le_refl (toEBlk b))
          ((try subst hD hu); (try simp only [nc] at *); (try simp only [Int.ofNat_eq_natCast] at *); try simp (disch := omega) only [std, uid, S0] at *)
          omega
        · ((try subst hD hu); (try simp only [nc] at *); (try simp only [Int.ofNat_eq_natCast] at *); try simp (disch := omega) only [std, uid, S0, e0] at *)
        · subst hD hu
          exact LR.deq2 (LR.to (LR.cat' LR.refl LR.refl) e0.symm)
theorem x_implRedraw (a b : Blk) (ha : bdEBlk 2000000 a) (hka : okBlk a) (hta : toEBlk a ≤ 2000000) (hb : bdEBlk 2000000 b) (hkb : okBlk b) (htb : toEBlk b ≤ 2000000) : PX Tryd.prog 21 (fun D u => [.r (.a (rBlk D u (u _ a))), .r (.a (rBlk D u (u _ b)))]) (fun D u => [.c (lB D u (u _ (redraw a b)))]) (fun D u => []) := by
  have ha1 := ha.1
  have hb1 := hb.1
  have hra : a.rows.length ≤ 2000000 := by simp only [toEBlk, totL] at hta; omega
  have hrb : b.rows.length ≤ 2000000 := by simp only [toEBlk, totL] at htb; omega
  refine px_of_awp (fn := Tryd.f21) (c := bodyOf Tryd.f21) envOk (by kernel_rfl) (by kernel_rfl) (by kernel_rfl) (by kernel_rfl) rfl (by kernel_rfl) (by kernel_rfl) ?_
  intro w0 mine D u C L hD hu hC hL
  ((try conv => cbv); (repeat' (first | with_reducible exact mK hD | (with_reducible first | refine mS hD ?_ | refine mT hD ?_ | refine mF hD ?_ | refine mB hD (fun _ => ?_) (fun _ => ?_) | exact True.intro | refine And.intro ?_ ?_) <;> try conv => cbv)); all_goals try exact fx)
  refine callx hD hu hC (x_drawable a (bmEBlk _ _ _ (by omega) ha) hka) ?_
  cases h : drawable a with
  | false =>
    have e : redraw a b = [] := by rw [redraw, h]; rfl
    rw [e]
    ((try conv => cbv); (repeat' (first | with_reducible exact mK hD | (with_reducible first | refine mS hD ?_ | refine mJ hL ?_ | refine mT hD ?_ | refine mF hD ?_ | refine mB hD (fun _ => ?_) (fun _ => ?_) | exact True.intro | refine And.intro ?_ ?_) <;> try conv => cbv)); all_goals try exact fx)
    exact DEq.z _ _ _
  | true =>
    have hd : 0 ≤ a.row ∧ a.row < a.rows.length ∧ 0 ≤ a.col ∧ a.col < 200 := by simpa [drawable] using h
    ((try conv => cbv); (repeat' (first | with_reducible exact mK hD | (with_reducible first | refine mS hD ?_ | refine mJ hL ?_ | refine mT hD ?_ | refine mF hD ?_ | refine mB hD (fun _ => ?_) (fun _ => ?_) | exact True.intro | refine And.intro ?_ ?_) <;> try conv => cbv)); all_goals try exact fx)
    refine callx hD hu hC (x_drawable b (bmEBlk _ _ _ (by omega) hb) hkb) ?_
    cases h' : drawable b with
    | false =>
      have e : redraw a b = [] := by rw [redraw, h, h']; rfl
      rw [e]
      ((try conv => cbv); (repeat' (first | with_reducible exact mK hD | (with_reducible first | refine mS hD ?_ | refine mJ hL ?_ | refine mT hD ?_ | refine mF hD ?_ | refine mB hD (fun _ => ?_) (fun _ => ?_) | exact True.intro | refine And.intro ?_ ?_) <;> try conv => cbv)); all_goals try exact fx)
      exact DEq.z _ _ _
    | true =>
      have hd' : 0 ≤ b.row ∧ b.row < b.rows.length ∧ 0 ≤ b.col ∧ b.col < 200 := by simpa [drawable] using h'
      have e0 : redraw a b = if a.rows = b.rows then goS (a.row - b.row) [65] ++ goS (b.row - a.row) [66] ++ (if a.col = b.col then [] else goS (b.col + 1) [71]) else erase a ++ paint b := by rw [redraw, h, h']; rfl
      ((try conv => cbv); (repeat' (first | with_reducible exact mK hD | (with_reducible first | refine mS hD ?_ | refine mJ hL ?_ | refine mT hD ?_ | refine mF hD ?_ | refine mB hD (fun _ => ?_) (fun _ => ?_) | exact True.intro | refine And.intro ?_ ?_) <;> try conv => cbv)); all_goals try exact fx)
      refine callx hD hu hC (x_slicesEqual a.rows b.rows (by omega) (by omega)) ?_
      by_cases hs : a.rows = b.rows
      · rw [decide_eq_true hs]
        rw [if_pos hs] at e0
        ((try conv => cbv); (repeat' (first | with_reducible exact mK hD | (with_reducible first | refine mS hD ?_ | refine mJ hL ?_ | refine mT hD ?_ | refine mF hD ?_ | refine mB hD (fun _ => ?_) (fun _ => ?_) | exact True.intro | refine And.intro ?_ ?_) <;> try conv => cbv)); all_goals try exact fx)
        refine call_in (fn := Tryd.f50) (c := bodyOf Tryd.f50) envOk (by kernel_rfl) (by kernel_rfl) (by kernel_rfl) (by kernel_rfl) rfl hD hC hL (by kernel_rfl) ?_; intro _
        ((try conv => cbv); (repeat' (first | with_reducible exact mK hD | (with_reducible first | refine mS hD ?_ | refine mJ hL ?_ | refine mT hD ?_ | refine mF hD ?_ | refine mB hD (fun _ => ?_) (fun _ => ?_) | exact True.intro | refine And.intro ?_ ?_) <;> try conv => cbv)); all_goals try exact fx)
        refine call_in (fn := Tryd.f80) (c := bodyOf Tryd.f80) envOk (by kernel_rfl) (by kernel_rfl) (by kernel_rfl) (by kernel_rfl) rfl hD hC hL (by kernel_rfl) ?_; intro _
        ((try conv => cbv); (repeat' (first | with_reducible exact mK hD | (with_reducible first | refine mS hD ?_ | refine mJ hL ?_ | refine mT hD ?_ | refine mF hD ?_ | refine mB hD (fun _ => ?_) (fun _ => ?_) | exact True.intro | refine And.intro ?_ ?_) <;> try conv => cbv)); all_goals try exact fx)
        · have hp : 0 < a.row - b.row := lo
          have hc1 : goS (a.row - b.row) [65] = [27, 91] ++ decS (a.row - b.row).toNat ++ [65] := by rw [goS, if_neg (by omega)]
          have hl1 := decS_len (a.row - b.row).toNat
          refine callx hD hu hC (x_Itoa (a.row - b.row).toNat (by omega)) ?_
          ((try conv => cbv); (repeat' (first | with_reducible exact mK hD | (with_reducible first | refine mS hD ?_ | refine mJ hL ?_ | refine mT hD ?_ | refine mF hD ?_ | refine mB hD (fun _ => ?_) (fun _ => ?_) | exact True.intro | refine And.intro ?_ ?_) <;> try conv => cbv)); all_goals try exact fx)
          refine call_in (fn := Tryd.f79) (c := bodyOf Tryd.f79) envOk (by kernel_rfl) (by kernel_rfl) (by kernel_rfl) (by kernel_rfl) rfl hD hC hL (by kernel_rfl) ?_; intro _
          ((try conv => cbv); (repeat' (first | with_reducible exact mK hD | (with_reducible first | refine mS hD ?_ | refine mJ hL ?_ | refine mT hD ?_ | refine mF hD ?_ | refine mB hD (fun _ => ?_) (fun _ => ?_) | exact True.intro | refine And.intro ?_ ?_) <;> try conv => cbv)); all_goals try exact fx)
          have hc2 : goS (b.row - a.row) [66] = [] := by rw [goS, if_pos (by omega)]
          refine call_in (fn := Tryd.f80) (c := bodyOf Tryd.f80) envOk (by kernel_rfl) (by kernel_rfl) (by kernel_rfl) (by kernel_rfl) rfl hD hC hL (by kernel_rfl) ?_; intro _
          ((try conv => cbv); (repeat' (first | with_reducible exact mK hD | (with_reducible first | refine mS hD ?_ | refine mJ hL ?_ | refine mT hD ?_ | refine mF hD ?_ | refine mB hD (fun _ => ?_) (fun _ => ?_) | exact True.intro | refine And.intro ?_ ?_) <;> try conv => cbv)); all_goals try exact fx)
          · have hcol : ¬ a.col = b.col := lo
            refine call_in (fn := Tryd.f80) (c := bodyOf Tryd.f80) envOk (by kernel_rfl) (by kernel_rfl) (by kernel_rfl) (by kernel_rfl) rfl hD hC hL (by kernel_rfl) ?_; intro _
            ((try conv => cbv); (repeat' (first | with_reducible exact mK hD | (with_reducible first | refine mS hD ?_ | refine mJ hL ?_ | refine mT hD ?_ | refine mF hD ?_ | refine mB hD (fun _ => ?_) (fun _ => ?_) | exact True.intro | refine And.intro ?_ ?_) <;> try conv => cbv)); all_goals try exact fx)
            have hc3 : goS (b.col + 1) [71] = [27, 91] ++ decS (b.col + 1).toNat ++ [71] := by rw [goS, if_neg (by omega)]
            have hl3 := decS_len (b.col + 1).toNat
            refine callx hD hu hC (x_Itoa (b.col + 1).toNat (by omega)) ?_
            ((try conv => cbv); (repeat' (first | with_reducible exact mK hD | (with_reducible first | refine mS hD ?_ | refine mJ hL ?_ | refine mT hD ?_ | refine mF hD ?_ | refine mB hD (fun _ => ?_) (fun _ => ?_) | exact True.intro | refine And.intro ?_ ?_) <;> try conv => cbv)); all_goals try exact fx)
            refine call_in (fn := Tryd.f79) (c := bodyOf Tryd.f79) envOk (by kernel_rfl) (by kernel_rfl) (by kernel_rfl) (by kernel_rfl) rfl hD hC hL (by kernel_rfl) ?_; intro _
            ((try conv => cbv); (repeat' (first | with_reducible exact mK hD | (with_reducible first | refine mS hD ?_ | refine mJ hL ?_ | refine mT hD ?_ | refine mF hD ?_ | refine mB hD (fun _ => ?_) (fun _ => ?_) | exact True.intro | refine And.intro ?_ ?_) <;> try conv => cbv)); all_goals try exact fx)
            rw [if_neg hcol] at e0
            rw [hc1, hc2, hc3] at e0
            refine call_in (fn := Tryd.f82) (c := bodyOf Tryd.f82) envOk (by kernel_rfl) (by kernel_rfl) (by kernel_rfl) (by kernel_rfl) rfl hD hC hL (by kernel_rfl) ?_; intro _
            ((try conv => cbv); (repeat' (first | with_reducible exact mK hD | (with_reducible first | refine mS hD ?_ | refine mJ hL ?_ | refine mT hD ?_ | refine mF hD ?_ | refine mB hD (fun _ => ?_) (fun _ => ?_) | exact True.intro | refine And.intro ?_ ?_) <;> try conv => cbv)); all_goals try exact fx)
            · ((try subst hD hu); (try simp only [nc] at *); (try simp only [Int.ofNat_eq_natCast] at *); try simp (disch := omega) only [std, uid, S0, e0] at *)
              try omega
            · subst hD hu
              refine LR.deq2 (LR.to (LR.cat' (LR.cat' LR.nil (LR_bytes' (sr_cat (sr_cat rfl rfl) rfl))) (LR_bytes' (sr_cat (sr_cat rfl rfl) rfl))) ?_)
              simp only [uid, e0, List.nil_append, List.append_nil, List.append_assoc]
          · have hcol : a.col = b.col := lo
            rw [if_pos hcol] at e0
            rw [hc1, hc2] at e0
            refine call_in (fn := Tryd.f82) (c := bodyOf Tryd.f82) envOk (by kernel_rfl) (by kernel_rfl) (by kernel_rfl) (by kernel_rfl) rfl hD hC hL (by kernel_rfl) ?_; intro _
            ((try conv => cbv); (repeat' (first | with_reducible exact mK hD | (with_reducible first | refine mS hD ?_ | refine mJ hL ?_ | refine mT hD ?_ | refine mF hD ?_ | refine mB hD (fun _ => ?_) (fun _ => ?_) | exact True.intro | refine And.intro ?_ ?_) <;> try conv => cbv)); all_goals try exact fx)
            · ((try subst hD hu); (try simp only [nc] at *); (try simp only [Int.ofNat_eq_natCast] at *); try simp (disch := omega) only [std, uid, S0, e0] at *)
              try omega
            · subst hD hu
              refine LR.deq2 (LR.to (LR.cat' LR.nil (LR_bytes' (sr_cat (sr_cat rfl rfl) rfl))) ?_)
              simp only [uid, e0, List.nil_append, List.append_nil, List.append_assoc]
        · have hp : ¬ 0 < a.row - b.row := lo
          have hc1 : goS (a.row - b.row) [65] = [] := by rw [goS, if_pos (by omega)]
          refine call_in (fn := Tryd.f80) (c := bodyOf Tryd.f80) envOk (by kernel_rfl) (by kernel_rfl) (by kernel_rfl) (by kernel_rfl) rfl hD hC hL (by kernel_rfl) ?_; intro _
          ((try conv => cbv); (repeat' (first | with_reducible exact mK hD | (with_reducible first | refine mS hD ?_ | refine mJ hL ?_ | refine mT hD ?_ | refine mF hD ?_ | refine mB hD (fun _ => ?_) (fun _ => ?_) | exact True.intro | refine And.intro ?_ ?_) <;> try conv => cbv)); all_goals try exact fx)
          · have hq : 0 < b.row - a.row := lo
            have hc2 : goS (b.row - a.row) [66] = [27, 91] ++ decS (b.row - a.row).toNat ++ [66] := by rw [goS, if_neg (by omega)]
            have hl2 := decS_len (b.row - a.row).toNat
            refine callx hD hu hC (x_Itoa (b.row - a.row).toNat (by omega)) ?_
            ((try conv => cbv); (repeat' (first | with_reducible exact mK hD | (with_reducible first | refine mS hD ?_ | refine mJ hL ?_ | refine mT hD ?_ | refine mF hD ?_ | refine mB hD (fun _ => ?_) (fun _ => ?_) | exact True.intro | refine And.intro ?_ ?_) <;> try conv => cbv)); all_goals try exact fx)
            refine call_in (fn := Tryd.f79) (c := bodyOf Tryd.f79) envOk (by kernel_rfl) (by kernel_rfl) (by kernel_rfl) (by kernel_rfl) rfl hD hC hL (by kernel_rfl) ?_; intro _
            ((try conv => cbv); (repeat' (first | with_reducible exact mK hD | (with_reducible first | refine mS hD ?_ | refine mJ hL ?_ | refine mT hD ?_ | refine mF hD ?_ | refine mB hD (fun _ => ?_) (fun _ => ?_) | exact True.intro | refine And.intro ?_ ?_) <;> try conv => cbv)); all_goals try exact fx)
            · have hcol : ¬ a.col = b.col := lo
              refine call_in (fn := Tryd.f80) (c := bodyOf Tryd.f80) envOk (by kernel_rfl) (by kernel_rfl) (by kernel_rfl) (by kernel_rfl) rfl hD hC hL (by kernel_rfl) ?_; intro _
              ((try conv => cbv); (repeat' (first | with_reducible exact mK hD | (with_reducible first | refine mS hD ?_ | refine mJ hL ?_ | refine mT hD ?_ | refine mF hD ?_ | refine mB hD (fun _ => ?_) (fun _ => ?_) | exact True.intro | refine And.intro ?_ ?_) <;> try conv => cbv)); all_goals try exact fx)
              have hc3 : goS (b.col + 1) [71] = [27, 91] ++ decS (b.col + 1).toNat ++ [71] := by rw [goS, if_neg (by omega)]
              have hl3 := decS_len (b.col + 1).toNat
              refine callx hD hu hC (x_Itoa (b.col + 1).toNat (by omega)) ?_
              ((try conv => cbv); (repeat' (first | with_reducible exact mK hD | (with_reducible first | refine mS hD ?_ | refine mJ hL ?_ | refine mT hD ?_ | refine mF hD ?_ | refine mB hD (fun _ => ?_) (fun _ => ?_) | exact True.intro | refine And.intro ?_ ?_) <;> try conv => cbv)); all_goals try exact fx)
              refine call_in (fn := Tryd.f79) (c := bodyOf Tryd.f79) envOk (by kernel_rfl) (by kernel_rfl) (by kernel_rfl) (by kernel_rfl) rfl hD hC hL (by kernel_rfl) ?_; intro _
              ((try conv => cbv); (repeat' (first | with_reducible exact mK hD | (with_reducible first | refine mS hD ?_ | refine mJ hL ?_ | refine mT hD ?_ | refine mF hD ?_ | refine mB hD (fun _ => ?_) (fun _ => ?_) | exact True.intro | refine And.intro ?_ ?_) <;> try conv => cbv)); all_goals try exact fx)
              rw [if_neg hcol] at e0
              rw [hc1, hc2, hc3] at e0
              refine call_in (fn := Tryd.f82) (c := bodyOf Tryd.f82) envOk (by kernel_rfl) (by kernel_rfl) (by kernel_rfl) (by kernel_rfl) rfl hD hC hL (by kernel_rfl) ?_; intro _
              ((try conv => cbv); (repeat' (first | with_reducible exact mK hD | (with_reducible first | refine mS hD ?_ | refine mJ hL ?_ | refine mT hD ?_ | refine mF hD ?_ | refine mB hD (fun _ => ?_) (fun _ => ?_) | exact True.intro | refine And.intro ?_ ?_) <;> try conv => cbv)); all_goals try exact fx)
              · ((try subst hD hu); (try simp only [nc] at *); (try simp only [Int.ofNat_eq_natCast] at *); try simp (disch := omega) only [std, uid, S0, e0] at *)
                try omega
              · subst hD hu
                refine LR.deq2 (LR.to (LR.cat' (LR.cat' LR.nil (LR_bytes' (sr_cat (sr_cat rfl rfl) rfl))) (LR_bytes' (sr_cat (sr_cat rfl rfl) rfl))) ?_)
                simp only [uid, e0, List.nil_append, List.append_nil, List.append_assoc]
            · have hcol : a.col = b.col := lo
              rw [if_pos hcol] at e0
              rw [hc1, hc2] at e0
              refine call_in (fn := Tryd.f82) (c := bodyOf Tryd.f82) envOk (by kernel_rfl) (by kernel_rfl) (by kernel_rfl) (by kernel_rfl) rfl hD hC hL (by kernel_rfl) ?_; intro _
              ((try conv => cbv); (repeat' (first | with_reducible exact mK hD | (with_reducible first | refine mS hD ?_ | refine mJ hL ?_ | refine mT hD ?_ | refine mF hD ?_ | refine mB hD (fun _ => ?_) (fun _ => ?_) | exact True.intro | refine And.intro ?_ ?_) <;> try conv => cbv)); all_goals try exact fx)
              · ((try subst hD hu); (try simp only [nc] at *); (try simp only [Int.ofNat_eq_natCast] at *); try simp (disch := omega) only [std, uid, S0, e0] at *)
                try omega
              · subst hD hu
                refine LR.deq2 (LR.to (LR.cat' LR.nil (LR_bytes' (sr_cat (sr_cat rfl rfl) rfl))) ?_)
                simp only [uid, e0, List.nil_append, List.append_nil, List.append_assoc]
          · have hq : ¬ 0 < b.row - a.row := lo
            have hc2 : goS (b.row - a.row) [66] = [] := by rw [goS, if_pos (by omega)]
            have hcol : ¬ a.col = b.col := lo
            refine call_in (fn := Tryd.f80) (c := bodyOf Tryd.f80) envOk (by kernel_rfl) (by kernel_rfl) (by kernel_rfl) (by kernel_rfl) rfl hD hC hL (by kernel_rfl) ?_; intro _
            ((try conv => cbv); (repeat' (first | with_reducible exact mK hD | (with_reducible first | refine mS hD ?_ | refine mJ hL ?_ | refine mT hD ?_ | refine mF hD ?_ | refine mB hD (fun _ => ?_) (fun _ => ?_) | exact True.intro | refine And.intro ?_ ?_) <;> try conv => cbv)); all_goals try exact fx)
            have hc3 : goS (b.col + 1) [71] = [27, 91] ++ decS (b.col + 1).toNat ++ [71] := by rw [goS, if_neg (by omega)]
            have hl3 := decS_len (b.col + 1).toNat
            refine callx hD hu hC (x_Itoa (b.col + 1).toNat (by omega)) ?_
            ((try conv => cbv); (repeat' (first | with_reducible exact mK hD | (with_reducible first | refine mS hD ?_ | refine mJ hL ?_ | refine mT hD ?_ | refine mF hD ?_ | refine mB hD (fun _ => ?_) (fun _ => ?_) | exact True.intro | refine And.intro ?_ ?_) <;> try conv => cbv)); all_goals try exact fx)
            refine call_in (fn := Tryd.f79) (c := bodyOf Tryd.f79) envOk (by kernel_rfl) (by kernel_rfl) (by kernel_rfl) (by kernel_rfl) rfl hD hC hL (by kernel_rfl) ?_; intro _
            ((try conv => cbv); (repeat' (first | with_reducible exact mK hD | (with_reducible first | refine mS hD ?_ | refine mJ hL ?_ | refine mT hD ?_ | refine mF hD ?_ | refine mB hD (fun _ => ?_) (fun _ => ?_) | exact True.intro | refine And.intro ?_ ?_) <;> try conv => cbv)); all_goals try exact fx)
            rw [if_neg hcol] at e0
            rw [hc1, hc2, hc3] at e0
            refine call_in (fn := Tryd.f82) (c := bodyOf Tryd.f82) envOk (by kernel_rfl) (by kernel_rfl) (by kernel_rfl) (by kernel_rfl) rfl hD hC hL (by kernel_rfl) ?_; intro _
            ((try conv => cbv); (repeat' (first | with_reducible exact mK hD | (with_reducible first | refine mS hD ?_ | refine mJ hL ?_ | refine mT hD ?_ | refine mF hD ?_ | refine mB hD (fun _ => ?_) (fun _ => ?_) | exact True.intro | refine And.intro ?_ ?_) <;> try conv => cbv)); all_goals try exact fx)
            · ((try subst hD hu); (try simp only [nc] at *); (try simp only [Int.ofNat_eq_natCast] at *); try simp (disch := omega) only [std, uid, S0, e0] at *)
              try omega
            · subst hD hu
              refine LR.deq2 (LR.to (LR.cat' LR.nil (LR_bytes' (sr_cat (sr_cat rfl rfl) rfl))) ?_)
              simp only [uid, e0, List.nil_append, List.append_nil, List.append_assoc]
          · have hq : ¬ 0 < b.row - a.row := lo
            have hc2 : goS (b.row - a.row) [66] = [] := by rw [goS, if_pos (by omega)]
            have hcol : a.col = b.col := lo
            rw [if_pos hcol] at e0
            rw [hc1, hc2] at e0
            refine call_in (fn := Tryd.f82) (c := bodyOf Tryd.f82) envOk (by kernel_rfl) (by kernel_rfl) (by kernel_rfl) (by kernel_rfl) rfl hD hC hL (by kernel_rfl) ?_; intro _
            ((try conv => cbv); (repeat' (first | with_reducible exact mK hD | (with_reducible first | refine mS hD ?_ | refine mJ hL ?_ | refine mT hD ?_ | refine mF hD ?_ | refine mB hD (fun _ => ?_) (fun _ => ?_) | exact True.intro | refine And.intro ?_ ?_) <;> try conv => cbv)); all_goals try exact fx)
            · ((try subst hD hu); (try simp only [nc] at *); (try simp only [Int.ofNat_eq_natCast] at *); try simp (disch := omega) only [std, uid, S0, e0] at *)
            · rw [e0]
              subst hD hu
              exact LR.deq2 LR.nil
      · rw [decide_eq_false hs]
        rw [if_neg hs] at e0
        ((try conv => cbv); (repeat' (first | with_reducible exact mK hD | (with_reducible first | refine mS hD ?_ | refine mJ hL ?_ | refine mT hD ?_ | refine mF hD ?_ | refine mB hD (fun _ => ?_) (fun _ => ?_) | exact True.intro | refine And.intro ?_ ?_) <;> try conv => cbv)); all_goals try exact fx)
        refine callx hD hu hC (x_implErase a ha hka hta) ?_
        ((try conv => cbv); (repeat' (first | with_reducible exact mK hD | (with_reducible first | refine mS hD ?_ | refine mJ hL ?_ | refine mT hD ?_ | refine mF hD ?_ | refine mB hD (fun _ => ?_) (fun _ => ?_) | exact True.intro | refine And.intro ?_ ?_) <;> try conv => cbv)); all_goals try exact fx)
        refine callx hD hu hC (x_implPaint b hb hkb htb) ?_
        ((try conv => cbv); (repeat' (first | with_reducible exact mK hD | (with_reducible first | refine mS hD ?_ | refine mJ hL ?_ | refine mT hD ?_ | refine mF hD ?_ | refine mB hD (fun _ => ?_) (fun _ => ?_) | exact True.intro | refine And.intro ?_ ?_) <;> try conv => cbv)); all_goals try exact fx)
        · have h1 := erase_tot a (Nat.le_refl (toEBlk a))
          have h2 := paint_tot b (Nat.le_refl (toEBlk b))
          ((try subst hD hu); (try simp only [nc] at *); (try simp only [Int.ofNat_eq_natCast] at *); try simp (disch := omega) only [std, uid, S0] at *)
          omega
        · ((try subst hD hu); (try simp only [nc] at *); (try simp only [Int.ofNat_eq_natCast] at *); try simp (disch := omega) only [std, uid, S0, e0] at *)
        · subst hD hu
          exact LR.deq2 (LR.to (LR.cat' LR.refl LR.refl) e0.symm)
end Go.AW
/- The law of Redraw. -/
set_option linter.unusedVariables false
set_option linter.unusedSimpArgs false
namespace Go.AW
open Go.Proofs
set_option maxRecDepth 100000
set_option maxHeartbeats 8000000
theorem con_FnExactRedraw (a : Blk) (h0 : bdEBlk 140737488355328 a ∧ okBlk a) (b : Blk) (h1 : bdEBlk 140737488355328 b ∧ okBlk b) : PX Tryd.prog 5 (fun D u => [.r (.a (rBlk D u (u _ a))), .r (.a (rBlk D u (u _ b)))]) (fun D u => [RB true]) (fun D u => []) := by
  refine px_of_awp (fn := Tryd.f5) (c := bodyOf Tryd.f5) envOk (by kernel_rfl) (by kernel_rfl) (by kernel_rfl) (by kernel_rfl) rfl (by kernel_rfl) (by kernel_rfl) ?_
  intro w0 mine D u C L hD hu hC hL
  ((try conv => cbv); (repeat' (first | with_reducible exact mK hD | (with_reducible first | refine mS hD ?_ | refine mJ hL ?_ | refine mT hD ?_ | refine mF hD ?_ | refine mB hD (fun _ => ?_) (fun _ => ?_) | exact True.intro | refine And.intro ?_ ?_) <;> try conv => cbv)); all_goals try exact fx)
  obtain ⟨r1, hr1⟩ := opq (if (1048576 : Int) - (toEBlk a : Nat) < 0 then -1 else (1048576 : Int) - (toEBlk a : Nat))
  all_goals (
    refine callx hD hu hC (x_szBlock a 1048576 r1 lo (h0.1) hr1) ?_
    ((try conv => cbv); (repeat' (first | with_reducible exact mK hD | (with_reducible first | refine mS hD ?_ | refine mJ hL ?_ | refine mT hD ?_ | refine mF hD ?_ | refine mB hD (fun _ => ?_) (fun _ => ?_) | exact True.intro | refine And.intro ?_ ?_) <;> try conv => cbv)); all_goals try exact fx)
    all_goals try ((subst hD hu; (try simp only [std, uid, rR, rB, rT, rN, rClu, rCel, rSnp, rKey, rCluS, rCelS, lR, lB, lT, lN, lClu, lCel, eL, dClu, dCel, dSnp, dKey, Int.toNat_natCast, Int.ofNat_eq_natCast, markL_len, mkR_len, mkB_len, mkN_len, mvBlk]) <;> rfl)))
  obtain ⟨r2, hr2⟩ := opq (if (r1 : Int) - (toEBlk b : Nat) < 0 then -1 else (r1 : Int) - (toEBlk b : Nat))
  all_goals (
    refine callx hD hu hC (x_szBlock b r1 r2 lo (h1.1) hr2) ?_
    ((try conv => cbv); (repeat' (first | with_reducible exact mK hD | (with_reducible first | refine mS hD ?_ | refine mJ hL ?_ | refine mT hD ?_ | refine mF hD ?_ | refine mB hD (fun _ => ?_) (fun _ => ?_) | exact True.intro | refine And.intro ?_ ?_) <;> try conv => cbv)); all_goals try exact fx)
    all_goals try ((subst hD hu; (try simp only [std, uid, rR, rB, rT, rN, rClu, rCel, rSnp, rKey, rCluS, rCelS, lR, lB, lT, lN, lClu, lCel, eL, dClu, dCel, dSnp, dKey, Int.toNat_natCast, Int.ofNat_eq_natCast, markL_len, mkR_len, mkB_len, mkN_len, mvBlk]) <;> rfl)))
  have hz0 : toEBlk a ≤ 1048576 := lo
  have hb0 : bdEBlk 1000000000 a := boEBlk _ _ (by omega)
  have hc0 := ccVBlk a
  have hz1 : toEBlk b ≤ 1048576 := lo
  have hb1 : bdEBlk 1000000000 b := boEBlk _ _ (by omega)
  have hc1 := ccVBlk b
  have ht0 : (redraw a b).length ≤ 1000000000 := Nat.le_trans (redraw_tot a b hz0 hz1) (by omega)
  have hbr0 : (redraw a b).length ≤ 1000000000 := ht0
  all_goals (
    refine callx hD hu hC (x_toBlock a hb0) ?_
    ((try conv => cbv); (repeat' (first | with_reducible exact mK hD | (with_reducible first | refine mS hD ?_ | refine mJ hL ?_ | refine mT hD ?_ | refine mF hD ?_ | refine mB hD (fun _ => ?_) (fun _ => ?_) | exact True.intro | refine And.intro ?_ ?_) <;> try conv => cbv)); all_goals try exact fx)
    all_goals try ((subst hD hu; (try simp only [std, uid, rR, rB, rT, rN, rClu, rCel, rSnp, rKey, rCluS, rCelS, lR, lB, lT, lN, lClu, lCel, eL, dClu, dCel, dSnp, dKey, Int.toNat_natCast, Int.ofNat_eq_natCast, markL_len, mkR_len, mkB_len, mkN_len, mvBlk]) <;> rfl)))
  all_goals (
    refine callx hD hu hC (x_toBlock b hb1) ?_
    ((try conv => cbv); (repeat' (first | with_reducible exact mK hD | (with_reducible first | refine mS hD ?_ | refine mJ hL ?_ | refine mT hD ?_ | refine mF hD ?_ | refine mB hD (fun _ => ?_) (fun _ => ?_) | exact True.intro | refine And.intro ?_ ?_) <;> try conv => cbv)); all_goals try exact fx)
    all_goals try ((subst hD hu; (try simp only [std, uid, rR, rB, rT, rN, rClu, rCel, rSnp, rKey, rCluS, rCelS, lR, lB, lT, lN, lClu, lCel, eL, dClu, dCel, dSnp, dKey, Int.toNat_natCast, Int.ofNat_eq_natCast, markL_len, mkR_len, mkB_len, mkN_len, mvBlk]) <;> rfl)))
  all_goals (
    refine callx hD hu hC (x_specRedraw a b (bmEBlk _ _ _ (by omega) (boEBlk _ a hz0)) h0.2 (by omega) (bmEBlk _ _ _ (by omega) (boEBlk _ b hz1)) h1.2 (by omega)) ?_
    ((try conv => cbv); (repeat' (first | with_reducible exact mK hD | (with_reducible first | refine mS hD ?_ | refine mJ hL ?_ | refine mT hD ?_ | refine mF hD ?_ | refine mB hD (fun _ => ?_) (fun _ => ?_) | exact True.intro | refine And.intro ?_ ?_) <;> try conv => cbv)); all_goals try exact fx)
    all_goals try ((subst hD hu; (try simp only [std, uid, rR, rB, rT, rN, rClu, rCel, rSnp, rKey, rCluS, rCelS, lR, lB, lT, lN, lClu, lCel, eL, dClu, dCel, dSnp, dKey, Int.toNat_natCast, Int.ofNat_eq_natCast, markL_len, mkR_len, mkB_len, mkN_len, mvBlk]) <;> rfl)))
  all_goals (
    refine callx hD hu hC (x_toBlock a hb0) ?_
    ((try conv => cbv); (repeat' (first | with_reducible exact mK hD | (with_reducible first | refine mS hD ?_ | refine mJ hL ?_ | refine mT hD ?_ | refine mF hD ?_ | refine mB hD (fun _ => ?_) (fun _ => ?_) | exact True.intro | refine And.intro ?_ ?_) <;> try conv => cbv)); all_goals try exact fx)
    all_goals try ((subst hD hu; (try simp only [std, uid, rR, rB, rT, rN, rClu, rCel, rSnp, rKey, rCluS, rCelS, lR, lB, lT, lN, lClu, lCel, eL, dClu, dCel, dSnp, dKey, Int.toNat_natCast, Int.ofNat_eq_natCast, markL_len, mkR_len, mkB_len, mkN_len, mvBlk]) <;> rfl)))
  all_goals (
    refine callx hD hu hC (x_toBlock b hb1) ?_
    ((try conv => cbv); (repeat' (first | with_reducible exact mK hD | (with_reducible first | refine mS hD ?_ | refine mJ hL ?_ | refine mT hD ?_ | refine mF hD ?_ | refine mB hD (fun _ => ?_) (fun _ => ?_) | exact True.intro | refine And.intro ?_ ?_) <;> try conv => cbv)); all_goals try exact fx)
    all_goals try ((subst hD hu; (try simp only [std, uid, rR, rB, rT, rN, rClu, rCel, rSnp, rKey, rCluS, rCelS, lR, lB, lT, lN, lClu, lCel, eL, dClu, dCel, dSnp, dKey, Int.toNat_natCast, Int.ofNat_eq_natCast, markL_len, mkR_len, mkB_len, mkN_len, mvBlk]) <;> rfl)))
  all_goals (
    refine callx hD hu hC (x_implRedraw a b (bmEBlk _ _ _ (by omega) (boEBlk _ a hz0)) h0.2 (by omega) (bmEBlk _ _ _ (by omega) (boEBlk _ b hz1)) h1.2 (by omega)) ?_
    ((try conv => cbv); (repeat' (first | with_reducible exact mK hD | (with_reducible first | refine mS hD ?_ | refine mJ hL ?_ | refine mT hD ?_ | refine mF hD ?_ | refine mB hD (fun _ => ?_) (fun _ => ?_) | exact True.intro | refine And.intro ?_ ?_) <;> try conv => cbv)); all_goals try exact fx)
    all_goals try ((subst hD hu; (try simp only [std, uid, rR, rB, rT, rN, rClu, rCel, rSnp, rKey, rCluS, rCelS, lR, lB, lT, lN, lClu, lCel, eL, dClu, dCel, dSnp, dKey, Int.toNat_natCast, Int.ofNat_eq_natCast, markL_len, mkR_len, mkB_len, mkN_len, mvBlk]) <;> rfl)))
  all_goals (
    refine callx hD hu hC (x_eqByteS (redraw a b) hbr0) ?_
    ((try conv => cbv); (repeat' (first | with_reducible exact mK hD | (with_reducible first | refine mS hD ?_ | refine mJ hL ?_ | refine mT hD ?_ | refine mF hD ?_ | refine mB hD (fun _ => ?_) (fun _ => ?_) | exact True.intro | refine And.intro ?_ ?_) <;> try conv => cbv)); all_goals try exact fx)
    all_goals try ((subst hD hu; (try simp only [std, uid, rR, rB, rT, rN, rClu, rCel, rSnp, rKey, rCluS, rCelS, lR, lB, lT, lN, lClu, lCel, eL, dClu, dCel, dSnp, dKey, Int.toNat_natCast, Int.ofNat_eq_natCast, markL_len, mkR_len, mkB_len, mkN_len, mvBlk]) <;> rfl)))
  all_goals (
    refine callx hD hu hC (x_toBlock a hb0) ?_
    ((try conv => cbv); (repeat' (first | with_reducible exact mK hD | (with_reducible first | refine mS hD ?_ | refine mJ hL ?_ | refine mT hD ?_ | refine mF hD ?_ | refine mB hD (fun _ => ?_) (fun _ => ?_) | exact True.intro | refine And.intro ?_ ?_) <;> try conv => cbv)); all_goals try exact fx)
    all_goals try ((subst hD hu; (try simp only [std, uid, rR, rB, rT, rN, rClu, rCel, rSnp, rKey, rCluS, rCelS, lR, lB, lT, lN, lClu, lCel, eL, dClu, dCel, dSnp, dKey, Int.toNat_natCast, Int.ofNat_eq_natCast, markL_len, mkR_len, mkB_len, mkN_len, mvBlk]) <;> rfl)))
  all_goals (
    refine callx hD hu hC (x_eqBlock a hb0) ?_
    ((try conv => cbv); (repeat' (first | with_reducible exact mK hD | (with_reducible first | refine mS hD ?_ | refine mJ hL ?_ | refine mT hD ?_ | refine mF hD ?_ | refine mB hD (fun _ => ?_) (fun _ => ?_) | exact True.intro | refine And.intro ?_ ?_) <;> try conv => cbv)); all_goals try exact fx)
    all_goals try ((subst hD hu; (try simp only [std, uid, rR, rB, rT, rN, rClu, rCel, rSnp, rKey, rCluS, rCelS, lR, lB, lT, lN, lClu, lCel, eL, dClu, dCel, dSnp, dKey, Int.toNat_natCast, Int.ofNat_eq_natCast, markL_len, mkR_len, mkB_len, mkN_len, mvBlk]) <;> rfl)))
  all_goals (
    refine callx hD hu hC (x_toBlock b hb1) ?_
    ((try conv => cbv); (repeat' (first | with_reducible exact mK hD | (with_reducible first | refine mS hD ?_ | refine mJ hL ?_ | refine mT hD ?_ | refine mF hD ?_ | refine mB hD (fun _ => ?_) (fun _ => ?_) | exact True.intro | refine And.intro ?_ ?_) <;> try conv => cbv)); all_goals try exact fx)
    all_goals try ((subst hD hu; (try simp only [std, uid, rR, rB, rT, rN, rClu, rCel, rSnp, rKey, rCluS, rCelS, lR, lB, lT, lN, lClu, lCel, eL, dClu, dCel, dSnp, dKey, Int.toNat_natCast, Int.ofNat_eq_natCast, markL_len, mkR_len, mkB_len, mkN_len, mvBlk]) <;> rfl)))
  all_goals (
    refine callx hD hu hC (x_eqBlock b hb1) ?_
    ((try conv => cbv); (repeat' (first | with_reducible exact mK hD | (with_reducible first | refine mS hD ?_ | refine mJ hL ?_ | refine mT hD ?_ | refine mF hD ?_ | refine mB hD (fun _ => ?_) (fun _ => ?_) | exact True.intro | refine And.intro ?_ ?_) <;> try conv => cbv)); all_goals try exact fx)
    all_goals try ((subst hD hu; (try simp only [std, uid, rR, rB, rT, rN, rClu, rCel, rSnp, rKey, rCluS, rCelS, lR, lB, lT, lN, lClu, lCel, eL, dClu, dCel, dSnp, dKey, Int.toNat_natCast, Int.ofNat_eq_natCast, markL_len, mkR_len, mkB_len, mkN_len, mvBlk]) <;> rfl)))
  all_goals (
    refine callx hD hu hC (x_markBlock a (1) (1 + (cvBlk a : Nat)) (by omega) hb0 rfl) ?_
    ((try conv => cbv); (repeat' (first | with_reducible exact mK hD | (with_reducible first | refine mS hD ?_ | refine mJ hL ?_ | refine mT hD ?_ | refine mF hD ?_ | refine mB hD (fun _ => ?_) (fun _ => ?_) | exact True.intro | refine And.intro ?_ ?_) <;> try conv => cbv)); all_goals try exact fx)
    all_goals try ((subst hD hu; (try simp only [std, uid, rR, rB, rT, rN, rClu, rCel, rSnp, rKey, rCluS, rCelS, lR, lB, lT, lN, lClu, lCel, eL, dClu, dCel, dSnp, dKey, Int.toNat_natCast, Int.ofNat_eq_natCast, markL_len, mkR_len, mkB_len, mkN_len, mvBlk]) <;> rfl)))
  all_goals (
    refine callx hD hu hC (x_markBlock b (1 + (cvBlk a : Nat)) (1 + (cvBlk a : Nat) + (cvBlk b : Nat)) (by omega) hb1 rfl) ?_
    ((try conv => cbv); (repeat' (first | with_reducible exact mK hD | (with_reducible first | refine mS hD ?_ | refine mJ hL ?_ | refine mT hD ?_ | refine mF hD ?_ | refine mB hD (fun _ => ?_) (fun _ => ?_) | exact True.intro | refine And.intro ?_ ?_) <;> try conv => cbv)); all_goals try exact fx)
    all_goals try ((subst hD hu; (try simp only [std, uid, rR, rB, rT, rN, rClu, rCel, rSnp, rKey, rCluS, rCelS, lR, lB, lT, lN, lClu, lCel, eL, dClu, dCel, dSnp, dKey, Int.toNat_natCast, Int.ofNat_eq_natCast, markL_len, mkR_len, mkB_len, mkN_len, mvBlk]) <;> rfl)))
  all_goals (
    refine callx hD hu hC (x_eqByteS (redraw a b) hbr0) ?_
    ((try conv => cbv); (repeat' (first | with_reducible exact mK hD | (with_reducible first | refine mS hD ?_ | refine mJ hL ?_ | refine mT hD ?_ | refine mF hD ?_ | refine mB hD (fun _ => ?_) (fun _ => ?_) | exact True.intro | refine And.intro ?_ ?_) <;> try conv => cbv)); all_goals try exact fx)
    all_goals try ((subst hD hu; (try simp only [std, uid, rR, rB, rT, rN, rClu, rCel, rSnp, rKey, rCluS, rCelS, lR, lB, lT, lN, lClu, lCel, eL, dClu, dCel, dSnp, dKey, Int.toNat_natCast, Int.ofNat_eq_natCast, markL_len, mkR_len, mkB_len, mkN_len, mvBlk]) <;> rfl)))
  all_goals (
    refine callx hD hu hC (x_markByteS (redraw a b) (1) (1 + ((redraw a b).length : Nat)) (by omega) hbr0 rfl) ?_
    ((try conv => cbv); (repeat' (first | with_reducible exact mK hD | (with_reducible first | refine mS hD ?_ | refine mJ hL ?_ | refine mT hD ?_ | refine mF hD ?_ | refine mB hD (fun _ => ?_) (fun _ => ?_) | exact True.intro | refine And.intro ?_ ?_) <;> try conv => cbv)); all_goals try exact fx)
    all_goals try ((subst hD hu; (try simp only [std, uid, rR, rB, rT, rN, rClu, rCel, rSnp, rKey, rCluS, rCelS, lR, lB, lT, lN, lClu, lCel, eL, dClu, dCel, dSnp, dKey, Int.toNat_natCast, Int.ofNat_eq_natCast, markL_len, mkR_len, mkB_len, mkN_len, mvBlk]) <;> rfl)))
  all_goals (
    refine callx hD hu hC (x_heldByteS (redraw a b) (1) (1 + ((redraw a b).length : Nat)) (by omega) hbr0 rfl) ?_
    ((try conv => cbv); (repeat' (first | with_reducible exact mK hD | (with_reducible first | refine mS hD ?_ | refine mJ hL ?_ | refine mT hD ?_ | refine mF hD ?_ | refine mB hD (fun _ => ?_) (fun _ => ?_) | exact True.intro | refine And.intro ?_ ?_) <;> try conv => cbv)); all_goals try exact fx)
    all_goals try ((subst hD hu; (try simp only [std, uid, rR, rB, rT, rN, rClu, rCel, rSnp, rKey, rCluS, rCelS, lR, lB, lT, lN, lClu, lCel, eL, dClu, dCel, dSnp, dKey, Int.toNat_natCast, Int.ofNat_eq_natCast, markL_len, mkR_len, mkB_len, mkN_len, mvBlk]) <;> rfl)))
  all_goals (
    refine callx hD hu hC (x_toBlock a hb0) ?_
    ((try conv => cbv); (repeat' (first | with_reducible exact mK hD | (with_reducible first | refine mS hD ?_ | refine mJ hL ?_ | refine mT hD ?_ | refine mF hD ?_ | refine mB hD (fun _ => ?_) (fun _ => ?_) | exact True.intro | refine And.intro ?_ ?_) <;> try conv => cbv)); all_goals try exact fx)
    all_goals try ((subst hD hu; (try simp only [std, uid, rR, rB, rT, rN, rClu, rCel, rSnp, rKey, rCluS, rCelS, lR, lB, lT, lN, lClu, lCel, eL, dClu, dCel, dSnp, dKey, Int.toNat_natCast, Int.ofNat_eq_natCast, markL_len, mkR_len, mkB_len, mkN_len, mvBlk]) <;> rfl)))
  all_goals (
    refine callx hD hu hC (x_toBlock b hb1) ?_
    ((try conv => cbv); (repeat' (first | with_reducible exact mK hD | (with_reducible first | refine mS hD ?_ | refine mJ hL ?_ | refine mT hD ?_ | refine mF hD ?_ | refine mB hD (fun _ => ?_) (fun _ => ?_) | exact True.intro | refine And.intro ?_ ?_) <;> try conv => cbv)); all_goals try exact fx)
    all_goals try ((subst hD hu; (try simp only [std, uid, rR, rB, rT, rN, rClu, rCel, rSnp, rKey, rCluS, rCelS, lR, lB, lT, lN, lClu, lCel, eL, dClu, dCel, dSnp, dKey, Int.toNat_natCast, Int.ofNat_eq_natCast, markL_len, mkR_len, mkB_len, mkN_len, mvBlk]) <;> rfl)))
  all_goals (
    refine callx hD hu hC (x_implRedraw a b (bmEBlk _ _ _ (by omega) (boEBlk _ a hz0)) h0.2 (by omega) (bmEBlk _ _ _ (by omega) (boEBlk _ b hz1)) h1.2 (by omega)) ?_
    ((try conv => cbv); (repeat' (first | with_reducible exact mK hD | (with_reducible first | refine mS hD ?_ | refine mJ hL ?_ | refine mT hD ?_ | refine mF hD ?_ | refine mB hD (fun _ => ?_) (fun _ => ?_) | exact True.intro | refine And.intro ?_ ?_) <;> try conv => cbv)); all_goals try exact fx)
    all_goals try ((subst hD hu; (try simp only [std, uid, rR, rB, rT, rN, rClu, rCel, rSnp, rKey, rCluS, rCelS, lR, lB, lT, lN, lClu, lCel, eL, dClu, dCel, dSnp, dKey, Int.toNat_natCast, Int.ofNat_eq_natCast, markL_len, mkR_len, mkB_len, mkN_len, mvBlk]) <;> rfl)))
  all_goals (
    refine callx hD hu hC (x_eqByteS (redraw a b) hbr0) ?_
    ((try conv => cbv); (repeat' (first | with_reducible exact mK hD | (with_reducible first | refine mS hD ?_ | refine mJ hL ?_ | refine mT hD ?_ | refine mF hD ?_ | refine mB hD (fun _ => ?_) (fun _ => ?_) | exact True.intro | refine And.intro ?_ ?_) <;> try conv => cbv)); all_goals try exact fx)
    all_goals try ((subst hD hu; (try simp only [std, uid, rR, rB, rT, rN, rClu, rCel, rSnp, rKey, rCluS, rCelS, lR, lB, lT, lN, lClu, lCel, eL, dClu, dCel, dSnp, dKey, Int.toNat_natCast, Int.ofNat_eq_natCast, markL_len, mkR_len, mkB_len, mkN_len, mvBlk]) <;> rfl)))
  all_goals (
    refine callx hD hu hC (x_heldByteS (redraw a b) (1) (1 + ((redraw a b).length : Nat)) (by omega) hbr0 rfl) ?_
    ((try conv => cbv); (repeat' (first | with_reducible exact mK hD | (with_reducible first | refine mS hD ?_ | refine mJ hL ?_ | refine mT hD ?_ | refine mF hD ?_ | refine mB hD (fun _ => ?_) (fun _ => ?_) | exact True.intro | refine And.intro ?_ ?_) <;> try conv => cbv)); all_goals try exact fx)
    all_goals try ((subst hD hu; (try simp only [std, uid, rR, rB, rT, rN, rClu, rCel, rSnp, rKey, rCluS, rCelS, lR, lB, lT, lN, lClu, lCel, eL, dClu, dCel, dSnp, dKey, Int.toNat_natCast, Int.ofNat_eq_natCast, markL_len, mkR_len, mkB_len, mkN_len, mvBlk]) <;> rfl)))
end Go.AW
