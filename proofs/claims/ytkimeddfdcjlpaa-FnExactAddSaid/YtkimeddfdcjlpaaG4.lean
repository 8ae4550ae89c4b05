/- The types of the seat's program. -/
import Derived.Test.YtkimeddfdcjlpaaProg
import Derived.ProofKit
import Derived.OpenShut
import Derived.ShutString
import Derived.ChangeOld
import Derived.SizedLaws
import Derived.Carry
import Derived.Test.YtkimeddfdcjlpaaG3
set_option linter.unusedVariables false
set_option linter.unusedSimpArgs false
namespace Go.AW
open Go.Proofs
def env0 : Env
  | 1 => ⟨.fn, 1, 8, [.nilFunc]⟩
  | 2 => ⟨(.int .i64), 1, 8, [.int .i64 0]⟩
  | 3 => ⟨(.int .i64), 1, 8, [.int .i64 0]⟩
  | 4 => ⟨.bool, 1, 1, [.bool false]⟩
  | 5 => ⟨(.int .u8), 1, 1, [.int .u8 0]⟩
  | 6 => ⟨(.int .u8), 1, 1, [.int .u8 0]⟩
  | 7 => ⟨(.st [(0, 1), (1, 1), (2, 1), (3, 1)]), 4, 24, [.int .i64 0, .int .i64 0, .bool false, .int .u8 0]⟩
  | 8 => ⟨(.st [(0, 1), (1, 1), (2, 1), (3, 1)]), 4, 24, [.int .i64 0, .int .i64 0, .bool false, .int .u8 0]⟩
  | 9 => ⟨.str, 1, 16, [.string ⟨#[]⟩]⟩
  | 10 => ⟨.str, 1, 16, [.string ⟨#[]⟩]⟩
  | 11 => ⟨.str, 1, 16, [.string ⟨#[]⟩]⟩
  | 12 => ⟨(.int .u64), 1, 8, [.int .u64 0]⟩
  | 13 => ⟨(.st [(0, 1), (1, 1)]), 2, 24, [.string ⟨#[]⟩, .int .u64 0]⟩
  | 14 => ⟨(.st [(0, 1), (1, 1)]), 2, 24, [.string ⟨#[]⟩, .int .u64 0]⟩
  | 15 => ⟨(.ptr 185), 1, 8, [.pointer none]⟩
  | 16 => ⟨(.ptr 188), 1, 8, [.pointer none]⟩
  | 17 => ⟨(.ptr 196), 1, 8, [.pointer none]⟩
  | 18 => ⟨(.st [(0, 1)]), 1, 8, [.pointer none]⟩
  | 19 => ⟨(.st [(0, 1)]), 1, 8, [.pointer none]⟩
  | 21 => ⟨(.int .i32), 1, 4, [.int .i32 0]⟩
  | 22 => ⟨(.sl 140), 1, 24, [.slice none 0 0]⟩
  | 23 => ⟨(.st [(0, 1), (1, 1), (2, 1), (3, 1)]), 4, 72, [.string ⟨#[]⟩, .string ⟨#[]⟩, .string ⟨#[]⟩, .slice none 0 0]⟩
  | _ => noTI
def env1 : Env
  | 24 => ⟨(.st [(0, 1), (1, 1), (2, 1), (3, 1)]), 4, 72, [.string ⟨#[]⟩, .string ⟨#[]⟩, .string ⟨#[]⟩, .slice none 0 0]⟩
  | 25 => ⟨.fn, 1, 8, [.nilFunc]⟩
  | 26 => ⟨(.sl 141), 1, 24, [.slice none 0 0]⟩
  | 27 => ⟨(.st [(0, 1), (1, 1), (2, 1), (3, 1)]), 4, 72, [.string ⟨#[]⟩, .string ⟨#[]⟩, .string ⟨#[]⟩, .slice none 0 0]⟩
  | 28 => ⟨(.st [(0, 1), (1, 1), (2, 1), (3, 1)]), 4, 72, [.string ⟨#[]⟩, .string ⟨#[]⟩, .string ⟨#[]⟩, .slice none 0 0]⟩
  | 30 => ⟨.fn, 1, 8, [.nilFunc]⟩
  | 31 => ⟨.fn, 1, 8, [.nilFunc]⟩
  | 32 => ⟨.fn, 1, 8, [.nilFunc]⟩
  | 33 => ⟨.fn, 1, 8, [.nilFunc]⟩
  | 34 => ⟨.fn, 1, 8, [.nilFunc]⟩
  | 35 => ⟨(.sl 9), 1, 24, [.slice none 0 0]⟩
  | 36 => ⟨(.st [(0, 1), (1, 1), (2, 1)]), 3, 40, [.slice none 0 0, .int .i64 0, .int .i64 0]⟩
  | 37 => ⟨(.st [(0, 1), (1, 1), (2, 1)]), 3, 40, [.slice none 0 0, .int .i64 0, .int .i64 0]⟩
  | 38 => ⟨.fn, 1, 8, [.nilFunc]⟩
  | 39 => ⟨.fn, 1, 8, [.nilFunc]⟩
  | 40 => ⟨.fn, 1, 8, [.nilFunc]⟩
  | 41 => ⟨.fn, 1, 8, [.nilFunc]⟩
  | 42 => ⟨(.sl 5), 1, 24, [.slice none 0 0]⟩
  | 43 => ⟨(.st [(0, 1), (1, 1)]), 2, 32, [.slice none 0 0, .bool false]⟩
  | 44 => ⟨(.st [(0, 1), (1, 1)]), 2, 32, [.slice none 0 0, .bool false]⟩
  | 45 => ⟨(.st [(0, 1), (1, 1), (2, 1), (3, 4), (7, 2), (9, 1), (10, 1), (11, 1), (12, 1), (13, 1), (14, 1), (15, 1), (16, 1)]), 17, 272, [.string ⟨#[]⟩, .int .i64 0, .int .i64 0, .string ⟨#[]⟩, .string ⟨#[]⟩, .string ⟨#[]⟩, .slice none 0 0, .slice none 0 0, .bool false, .bool false, .slice none 0 0, .int .i64 0, .string ⟨#[]⟩, .bool false, .slice none 0 0, .slice none 0 0, .slice none 0 0]⟩
  | 46 => ⟨(.st [(0, 1), (1, 1), (2, 1), (3, 4), (7, 2), (9, 1), (10, 1), (11, 1), (12, 1), (13, 1), (14, 1), (15, 1), (16, 1)]), 17, 272, [.string ⟨#[]⟩, .int .i64 0, .int .i64 0, .string ⟨#[]⟩, .string ⟨#[]⟩, .string ⟨#[]⟩, .slice none 0 0, .slice none 0 0, .bool false, .bool false, .slice none 0 0, .int .i64 0, .string ⟨#[]⟩, .bool false, .slice none 0 0, .slice none 0 0, .slice none 0 0]⟩
  | 47 => ⟨.fn, 1, 8, [.nilFunc]⟩
  | _ => noTI
def env2 : Env
  | 48 => ⟨.fn, 1, 8, [.nilFunc]⟩
  | 49 => ⟨(.st [(0, 1), (1, 1)]), 2, 32, [.slice none 0 0, .bool false]⟩
  | 50 => ⟨(.st [(0, 1), (1, 1), (2, 1), (3, 4), (7, 2), (9, 1), (10, 1), (11, 1), (12, 1), (13, 1), (14, 1), (15, 1), (16, 1)]), 17, 272, [.string ⟨#[]⟩, .int .i64 0, .int .i64 0, .string ⟨#[]⟩, .string ⟨#[]⟩, .string ⟨#[]⟩, .slice none 0 0, .slice none 0 0, .bool false, .bool false, .slice none 0 0, .int .i64 0, .string ⟨#[]⟩, .bool false, .slice none 0 0, .slice none 0 0, .slice none 0 0]⟩
  | 51 => ⟨(.st [(0, 1), (1, 1), (2, 1), (3, 4), (7, 2), (9, 1), (10, 1), (11, 1), (12, 1), (13, 1), (14, 1), (15, 1), (16, 1)]), 17, 272, [.string ⟨#[]⟩, .int .i64 0, .int .i64 0, .string ⟨#[]⟩, .string ⟨#[]⟩, .string ⟨#[]⟩, .slice none 0 0, .slice none 0 0, .bool false, .bool false, .slice none 0 0, .int .i64 0, .string ⟨#[]⟩, .bool false, .slice none 0 0, .slice none 0 0, .slice none 0 0]⟩
  | 52 => ⟨.fn, 1, 8, [.nilFunc]⟩
  | 53 => ⟨.fn, 1, 8, [.nilFunc]⟩
  | 54 => ⟨.fn, 1, 8, [.nilFunc]⟩
  | 55 => ⟨(.st [(0, 1), (1, 1)]), 2, 32, [.int .i64 0, .slice none 0 0]⟩
  | 56 => ⟨(.st [(0, 1), (1, 1)]), 2, 32, [.int .i64 0, .slice none 0 0]⟩
  | 57 => ⟨.fn, 1, 8, [.nilFunc]⟩
  | 59 => ⟨.fn, 1, 8, [.nilFunc]⟩
  | 60 => ⟨(.st [(0, 1), (1, 1)]), 2, 32, [.int .i64 0, .slice none 0 0]⟩
  | 61 => ⟨.fn, 1, 8, [.nilFunc]⟩
  | 62 => ⟨.fn, 1, 8, [.nilFunc]⟩
  | 63 => ⟨.fn, 1, 8, [.nilFunc]⟩
  | 65 => ⟨.fn, 1, 8, [.nilFunc]⟩
  | 66 => ⟨.fn, 1, 8, [.nilFunc]⟩
  | 67 => ⟨(.sl 21), 1, 24, [.slice none 0 0]⟩
  | 68 => ⟨(.st [(0, 1), (1, 1)]), 2, 32, [.int .i64 0, .slice none 0 0]⟩
  | 69 => ⟨(.st [(0, 1), (1, 1)]), 2, 32, [.int .i64 0, .slice none 0 0]⟩
  | 70 => ⟨.fn, 1, 8, [.nilFunc]⟩
  | _ => noTI
def env3 : Env
  | 72 => ⟨.fn, 1, 8, [.nilFunc]⟩
  | 73 => ⟨(.st [(0, 1), (1, 1)]), 2, 32, [.int .i64 0, .slice none 0 0]⟩
  | 74 => ⟨.fn, 1, 8, [.nilFunc]⟩
  | 75 => ⟨.fn, 1, 8, [.nilFunc]⟩
  | 76 => ⟨.fn, 1, 8, [.nilFunc]⟩
  | 77 => ⟨.fn, 1, 8, [.nilFunc]⟩
  | 78 => ⟨.fn, 1, 8, [.nilFunc]⟩
  | 79 => ⟨.fn, 1, 8, [.nilFunc]⟩
  | 80 => ⟨.fn, 1, 8, [.nilFunc]⟩
  | 81 => ⟨.fn, 1, 8, [.nilFunc]⟩
  | 82 => ⟨.fn, 1, 8, [.nilFunc]⟩
  | 83 => ⟨.fn, 1, 8, [.nilFunc]⟩
  | 84 => ⟨(.ptr 88), 1, 8, [.pointer none]⟩
  | 85 => ⟨.fn, 1, 8, [.nilFunc]⟩
  | 86 => ⟨(.sl 103), 1, 24, [.slice none 0 0]⟩
  | 87 => ⟨(.st [(0, 4), (4, 1), (5, 1)]), 6, 120, [.string ⟨#[]⟩, .string ⟨#[]⟩, .string ⟨#[]⟩, .slice none 0 0, .slice none 0 0, .slice none 0 0]⟩
  | 88 => ⟨(.st [(0, 4), (4, 1), (5, 1)]), 6, 120, [.string ⟨#[]⟩, .string ⟨#[]⟩, .string ⟨#[]⟩, .slice none 0 0, .slice none 0 0, .slice none 0 0]⟩
  | 89 => ⟨.fn, 1, 8, [.nilFunc]⟩
  | 90 => ⟨.fn, 1, 8, [.nilFunc]⟩
  | 91 => ⟨.fn, 1, 8, [.nilFunc]⟩
  | 92 => ⟨.fn, 1, 8, [.nilFunc]⟩
  | 93 => ⟨.fn, 1, 8, [.nilFunc]⟩
  | 94 => ⟨(.sl 3), 1, 24, [.slice none 0 0]⟩
  | 95 => ⟨.fn, 1, 8, [.nilFunc]⟩
  | _ => noTI
def env4 : Env
  | 96 => ⟨.fn, 1, 8, [.nilFunc]⟩
  | 97 => ⟨.fn, 1, 8, [.nilFunc]⟩
  | 98 => ⟨.fn, 1, 8, [.nilFunc]⟩
  | 99 => ⟨(.sl 86), 1, 24, [.slice none 0 0]⟩
  | 100 => ⟨.fn, 1, 8, [.nilFunc]⟩
  | 101 => ⟨.fn, 1, 8, [.nilFunc]⟩
  | 102 => ⟨(.st [(0, 1), (1, 1)]), 2, 32, [.slice none 0 0, .int .i64 0]⟩
  | 103 => ⟨(.st [(0, 1), (1, 1)]), 2, 32, [.slice none 0 0, .int .i64 0]⟩
  | 104 => ⟨.fn, 1, 8, [.nilFunc]⟩
  | 105 => ⟨.fn, 1, 8, [.nilFunc]⟩
  | 106 => ⟨.fn, 1, 8, [.nilFunc]⟩
  | 107 => ⟨.fn, 1, 8, [.nilFunc]⟩
  | 108 => ⟨.fn, 1, 8, [.nilFunc]⟩
  | 109 => ⟨.fn, 1, 8, [.nilFunc]⟩
  | 110 => ⟨.fn, 1, 8, [.nilFunc]⟩
  | 111 => ⟨.fn, 1, 8, [.nilFunc]⟩
  | 112 => ⟨.fn, 1, 8, [.nilFunc]⟩
  | 113 => ⟨.fn, 1, 8, [.nilFunc]⟩
  | 114 => ⟨.fn, 1, 8, [.nilFunc]⟩
  | 115 => ⟨.fn, 1, 8, [.nilFunc]⟩
  | 116 => ⟨.fn, 1, 8, [.nilFunc]⟩
  | 117 => ⟨.fn, 1, 8, [.nilFunc]⟩
  | 118 => ⟨.fn, 1, 8, [.nilFunc]⟩
  | 119 => ⟨(.ptr 160), 1, 8, [.pointer none]⟩
  | _ => noTI
def env5 : Env
  | 120 => ⟨.fn, 1, 8, [.nilFunc]⟩
  | 121 => ⟨.fn, 1, 8, [.nilFunc]⟩
  | 122 => ⟨.fn, 1, 8, [.nilFunc]⟩
  | 123 => ⟨.fn, 1, 8, [.nilFunc]⟩
  | 124 => ⟨.fn, 1, 8, [.nilFunc]⟩
  | 125 => ⟨.fn, 1, 8, [.nilFunc]⟩
  | 126 => ⟨.fn, 1, 8, [.nilFunc]⟩
  | 127 => ⟨.fn, 1, 8, [.nilFunc]⟩
  | 128 => ⟨.fn, 1, 8, [.nilFunc]⟩
  | 129 => ⟨.fn, 1, 8, [.nilFunc]⟩
  | 130 => ⟨.fn, 1, 8, [.nilFunc]⟩
  | 131 => ⟨(.mp 3 3), 1, 8, [.map none]⟩
  | 132 => ⟨.fn, 1, 8, [.nilFunc]⟩
  | 133 => ⟨.fn, 1, 8, [.nilFunc]⟩
  | 135 => ⟨(.mp 3 133), 1, 8, [.map none]⟩
  | 136 => ⟨.fn, 1, 8, [.nilFunc]⟩
  | 137 => ⟨.fn, 1, 8, [.nilFunc]⟩
  | 138 => ⟨.fn, 1, 8, [.nilFunc]⟩
  | 139 => ⟨(.st [(0, 1), (1, 1)]), 2, 32, [.string ⟨#[]⟩, .string ⟨#[]⟩]⟩
  | 140 => ⟨(.st [(0, 1), (1, 1)]), 2, 32, [.string ⟨#[]⟩, .string ⟨#[]⟩]⟩
  | 141 => ⟨(.st [(0, 1), (1, 1)]), 2, 32, [.string ⟨#[]⟩, .string ⟨#[]⟩]⟩
  | 142 => ⟨.fn, 1, 8, [.nilFunc]⟩
  | 143 => ⟨.fn, 1, 8, [.nilFunc]⟩
  | _ => noTI
def env6 : Env
  | 144 => ⟨.fn, 1, 8, [.nilFunc]⟩
  | 145 => ⟨.fn, 1, 8, [.nilFunc]⟩
  | 146 => ⟨.fn, 1, 8, [.nilFunc]⟩
  | 147 => ⟨.fn, 1, 8, [.nilFunc]⟩
  | 148 => ⟨.fn, 1, 8, [.nilFunc]⟩
  | 149 => ⟨.fn, 1, 8, [.nilFunc]⟩
  | 150 => ⟨.fn, 1, 8, [.nilFunc]⟩
  | 151 => ⟨.fn, 1, 8, [.nilFunc]⟩
  | 152 => ⟨.fn, 1, 8, [.nilFunc]⟩
  | 153 => ⟨.fn, 1, 8, [.nilFunc]⟩
  | 154 => ⟨.fn, 1, 8, [.nilFunc]⟩
  | 155 => ⟨.fn, 1, 8, [.nilFunc]⟩
  | 156 => ⟨.fn, 1, 8, [.nilFunc]⟩
  | 157 => ⟨.fn, 1, 8, [.nilFunc]⟩
  | 158 => ⟨(.arr 100 9), 100, 1600, [.string ⟨#[]⟩, .string ⟨#[]⟩, .string ⟨#[]⟩, .string ⟨#[]⟩, .string ⟨#[]⟩, .string ⟨#[]⟩, .string ⟨#[]⟩, .string ⟨#[]⟩, .string ⟨#[]⟩, .string ⟨#[]⟩, .string ⟨#[]⟩, .string ⟨#[]⟩, .string ⟨#[]⟩, .string ⟨#[]⟩, .string ⟨#[]⟩, .string ⟨#[]⟩, .string ⟨#[]⟩, .string ⟨#[]⟩, .string ⟨#[]⟩, .string ⟨#[]⟩, .string ⟨#[]⟩, .string ⟨#[]⟩, .string ⟨#[]⟩, .string ⟨#[]⟩, .string ⟨#[]⟩, .string ⟨#[]⟩, .string ⟨#[]⟩, .string ⟨#[]⟩, .string ⟨#[]⟩, .string ⟨#[]⟩, .string ⟨#[]⟩, .string ⟨#[]⟩, .string ⟨#[]⟩, .string ⟨#[]⟩, .string ⟨#[]⟩, .string ⟨#[]⟩, .string ⟨#[]⟩, .string ⟨#[]⟩, .string ⟨#[]⟩, .string ⟨#[]⟩, .string ⟨#[]⟩, .string ⟨#[]⟩, .string ⟨#[]⟩, .string ⟨#[]⟩, .string ⟨#[]⟩, .string ⟨#[]⟩, .string ⟨#[]⟩, .string ⟨#[]⟩, .string ⟨#[]⟩, .string ⟨#[]⟩, .string ⟨#[]⟩, .string ⟨#[]⟩, .string ⟨#[]⟩, .string ⟨#[]⟩, .string ⟨#[]⟩, .string ⟨#[]⟩, .string ⟨#[]⟩, .string ⟨#[]⟩, .string ⟨#[]⟩, .string ⟨#[]⟩, .string ⟨#[]⟩, .string ⟨#[]⟩, .string ⟨#[]⟩, .string ⟨#[]⟩, .string ⟨#[]⟩, .string ⟨#[]⟩, .string ⟨#[]⟩, .string ⟨#[]⟩, .string ⟨#[]⟩, .string ⟨#[]⟩, .string ⟨#[]⟩, .string ⟨#[]⟩, .string ⟨#[]⟩, .string ⟨#[]⟩, .string ⟨#[]⟩, .string ⟨#[]⟩, .string ⟨#[]⟩, .string ⟨#[]⟩, .string ⟨#[]⟩, .string ⟨#[]⟩, .string ⟨#[]⟩, .string ⟨#[]⟩, .string ⟨#[]⟩, .string ⟨#[]⟩, .string ⟨#[]⟩, .string ⟨#[]⟩, .string ⟨#[]⟩, .string ⟨#[]⟩, .string ⟨#[]⟩, .string ⟨#[]⟩, .string ⟨#[]⟩, .string ⟨#[]⟩, .string ⟨#[]⟩, .string ⟨#[]⟩, .string ⟨#[]⟩, .string ⟨#[]⟩, .string ⟨#[]⟩, .string ⟨#[]⟩, .string ⟨#[]⟩, .string ⟨#[]⟩]⟩
  | 159 => ⟨(.st [(0, 100), (100, 1), (101, 1), (102, 1)]), 103, 1624, [.string ⟨#[]⟩, .string ⟨#[]⟩, .string ⟨#[]⟩, .string ⟨#[]⟩, .string ⟨#[]⟩, .string ⟨#[]⟩, .string ⟨#[]⟩, .string ⟨#[]⟩, .string ⟨#[]⟩, .string ⟨#[]⟩, .string ⟨#[]⟩, .string ⟨#[]⟩, .string ⟨#[]⟩, .string ⟨#[]⟩, .string ⟨#[]⟩, .string ⟨#[]⟩, .string ⟨#[]⟩, .string ⟨#[]⟩, .string ⟨#[]⟩, .string ⟨#[]⟩, .string ⟨#[]⟩, .string ⟨#[]⟩, .string ⟨#[]⟩, .string ⟨#[]⟩, .string ⟨#[]⟩, .string ⟨#[]⟩, .string ⟨#[]⟩, .string ⟨#[]⟩, .string ⟨#[]⟩, .string ⟨#[]⟩, .string ⟨#[]⟩, .string ⟨#[]⟩, .string ⟨#[]⟩, .string ⟨#[]⟩, .string ⟨#[]⟩, .string ⟨#[]⟩, .string ⟨#[]⟩, .string ⟨#[]⟩, .string ⟨#[]⟩, .string ⟨#[]⟩, .string ⟨#[]⟩, .string ⟨#[]⟩, .string ⟨#[]⟩, .string ⟨#[]⟩, .string ⟨#[]⟩, .string ⟨#[]⟩, .string ⟨#[]⟩, .string ⟨#[]⟩, .string ⟨#[]⟩, .string ⟨#[]⟩, .string ⟨#[]⟩, .string ⟨#[]⟩, .string ⟨#[]⟩, .string ⟨#[]⟩, .string ⟨#[]⟩, .string ⟨#[]⟩, .string ⟨#[]⟩, .string ⟨#[]⟩, .string ⟨#[]⟩, .string ⟨#[]⟩, .string ⟨#[]⟩, .string ⟨#[]⟩, .string ⟨#[]⟩, .string ⟨#[]⟩, .string ⟨#[]⟩, .string ⟨#[]⟩, .string ⟨#[]⟩, .string ⟨#[]⟩, .string ⟨#[]⟩, .string ⟨#[]⟩, .string ⟨#[]⟩, .string ⟨#[]⟩, .string ⟨#[]⟩, .string ⟨#[]⟩, .string ⟨#[]⟩, .string ⟨#[]⟩, .string ⟨#[]⟩, .string ⟨#[]⟩, .string ⟨#[]⟩, .string ⟨#[]⟩, .string ⟨#[]⟩, .string ⟨#[]⟩, .string ⟨#[]⟩, .string ⟨#[]⟩, .string ⟨#[]⟩, .string ⟨#[]⟩, .string ⟨#[]⟩, .string ⟨#[]⟩, .string ⟨#[]⟩, .string ⟨#[]⟩, .string ⟨#[]⟩, .string ⟨#[]⟩, .string ⟨#[]⟩, .string ⟨#[]⟩, .string ⟨#[]⟩, .string ⟨#[]⟩, .string ⟨#[]⟩, .string ⟨#[]⟩, .string ⟨#[]⟩, .string ⟨#[]⟩, .int .i64 0, .int .i64 0, .int .i64 0]⟩
  | 160 => ⟨(.st [(0, 100), (100, 1), (101, 1), (102, 1)]), 103, 1624, [.string ⟨#[]⟩, .string ⟨#[]⟩, .string ⟨#[]⟩, .string ⟨#[]⟩, .string ⟨#[]⟩, .string ⟨#[]⟩, .string ⟨#[]⟩, .string ⟨#[]⟩, .string ⟨#[]⟩, .string ⟨#[]⟩, .string ⟨#[]⟩, .string ⟨#[]⟩, .string ⟨#[]⟩, .string ⟨#[]⟩, .string ⟨#[]⟩, .string ⟨#[]⟩, .string ⟨#[]⟩, .string ⟨#[]⟩, .string ⟨#[]⟩, .string ⟨#[]⟩, .string ⟨#[]⟩, .string ⟨#[]⟩, .string ⟨#[]⟩, .string ⟨#[]⟩, .string ⟨#[]⟩, .string ⟨#[]⟩, .string ⟨#[]⟩, .string ⟨#[]⟩, .string ⟨#[]⟩, .string ⟨#[]⟩, .string ⟨#[]⟩, .string ⟨#[]⟩, .string ⟨#[]⟩, .string ⟨#[]⟩, .string ⟨#[]⟩, .string ⟨#[]⟩, .string ⟨#[]⟩, .string ⟨#[]⟩, .string ⟨#[]⟩, .string ⟨#[]⟩, .string ⟨#[]⟩, .string ⟨#[]⟩, .string ⟨#[]⟩, .string ⟨#[]⟩, .string ⟨#[]⟩, .string ⟨#[]⟩, .string ⟨#[]⟩, .string ⟨#[]⟩, .string ⟨#[]⟩, .string ⟨#[]⟩, .string ⟨#[]⟩, .string ⟨#[]⟩, .string ⟨#[]⟩, .string ⟨#[]⟩, .string ⟨#[]⟩, .string ⟨#[]⟩, .string ⟨#[]⟩, .string ⟨#[]⟩, .string ⟨#[]⟩, .string ⟨#[]⟩, .string ⟨#[]⟩, .string ⟨#[]⟩, .string ⟨#[]⟩, .string ⟨#[]⟩, .string ⟨#[]⟩, .string ⟨#[]⟩, .string ⟨#[]⟩, .string ⟨#[]⟩, .string ⟨#[]⟩, .string ⟨#[]⟩, .string ⟨#[]⟩, .string ⟨#[]⟩, .string ⟨#[]⟩, .string ⟨#[]⟩, .string ⟨#[]⟩, .string ⟨#[]⟩, .string ⟨#[]⟩, .string ⟨#[]⟩, .string ⟨#[]⟩, .string ⟨#[]⟩, .string ⟨#[]⟩, .string ⟨#[]⟩, .string ⟨#[]⟩, .string ⟨#[]⟩, .string ⟨#[]⟩, .string ⟨#[]⟩, .string ⟨#[]⟩, .string ⟨#[]⟩, .string ⟨#[]⟩, .string ⟨#[]⟩, .string ⟨#[]⟩, .string ⟨#[]⟩, .string ⟨#[]⟩, .string ⟨#[]⟩, .string ⟨#[]⟩, .string ⟨#[]⟩, .string ⟨#[]⟩, .string ⟨#[]⟩, .string ⟨#[]⟩, .string ⟨#[]⟩, .int .i64 0, .int .i64 0, .int .i64 0]⟩
  | 161 => ⟨.fn, 1, 8, [.nilFunc]⟩
  | 162 => ⟨.fn, 1, 8, [.nilFunc]⟩
  | 163 => ⟨.fn, 1, 8, [.nilFunc]⟩
  | 165 => ⟨.fn, 1, 8, [.nilFunc]⟩
  | 166 => ⟨.fn, 1, 8, [.nilFunc]⟩
  | 167 => ⟨(.ptr 103), 1, 8, [.pointer none]⟩
  | _ => noTI
def env7 : Env
  | 168 => ⟨(.int .u32), 1, 4, [.int .u32 0]⟩
  | 169 => ⟨.fn, 1, 8, [.nilFunc]⟩
  | 170 => ⟨.fn, 1, 8, [.nilFunc]⟩
  | 171 => ⟨.fn, 1, 8, [.nilFunc]⟩
  | 172 => ⟨.fn, 1, 8, [.nilFunc]⟩
  | 173 => ⟨.fn, 1, 8, [.nilFunc]⟩
  | 174 => ⟨(.sl 180), 1, 24, [.slice none 0 0]⟩
  | 175 => ⟨.fn, 1, 8, [.nilFunc]⟩
  | 176 => ⟨(.int .u64), 1, 8, [.int .u64 0]⟩
  | 177 => ⟨.fn, 1, 8, [.nilFunc]⟩
  | 178 => ⟨.fn, 1, 8, [.nilFunc]⟩
  | 179 => ⟨(.st [(0, 1), (1, 1)]), 2, 8, [.int .i32 0, .int .i32 0]⟩
  | 180 => ⟨(.st [(0, 1), (1, 1)]), 2, 8, [.int .i32 0, .int .i32 0]⟩
  | 182 => ⟨.fn, 1, 8, [.nilFunc]⟩
  | 183 => ⟨.fn, 1, 8, [.nilFunc]⟩
  | 184 => ⟨(.st [(0, 1), (1, 1), (2, 1), (3, 1)]), 4, 40, [.pointer none, .pointer none, .pointer none, .string ⟨#[]⟩]⟩
  | 185 => ⟨(.st [(0, 1), (1, 1), (2, 1), (3, 1)]), 4, 40, [.pointer none, .pointer none, .pointer none, .string ⟨#[]⟩]⟩
  | 186 => ⟨(.arr 0 16), 0, 0, []⟩
  | 187 => ⟨(.st [(0, 0)]), 0, 0, []⟩
  | 188 => ⟨(.st [(0, 0)]), 0, 0, []⟩
  | 189 => ⟨(.int .u8), 1, 1, [.int .u8 0]⟩
  | 190 => ⟨(.int .u8), 1, 1, [.int .u8 0]⟩
  | 191 => ⟨.fn, 1, 8, [.nilFunc]⟩
  | _ => noTI
def env8 : Env
  | 192 => ⟨(.ptr 5), 1, 8, [.pointer none]⟩
  | 193 => ⟨(.int .i32), 1, 4, [.int .i32 0]⟩
  | 194 => ⟨(.int .i32), 1, 4, [.int .i32 0]⟩
  | 195 => ⟨(.st [(0, 1), (1, 1), (2, 1), (3, 1), (4, 1), (5, 1), (6, 1), (7, 1), (8, 1), (9, 1), (10, 1)]), 11, 48, [.int .u64 0, .int .u64 0, .int .u32 0, .int .u8 0, .int .u8 0, .int .u8 0, .int .u8 0, .nilFunc, .pointer none, .int .i32 0, .int .i32 0]⟩
  | 196 => ⟨(.st [(0, 1), (1, 1), (2, 1), (3, 1), (4, 1), (5, 1), (6, 1), (7, 1), (8, 1), (9, 1), (10, 1)]), 11, 48, [.int .u64 0, .int .u64 0, .int .u32 0, .int .u8 0, .int .u8 0, .int .u8 0, .int .u8 0, .nilFunc, .pointer none, .int .i32 0, .int .i32 0]⟩
  | _ => noTI
def env : Env := fun t => bif Nat.ble 197 t then noTI else bif Nat.blt t 24 then env0 t else bif Nat.blt t 48 then env1 t else bif Nat.blt t 72 then env2 t else bif Nat.blt t 96 then env3 t else bif Nat.blt t 120 then env4 t else bif Nat.blt t 144 then env5 t else bif Nat.blt t 168 then env6 t else bif Nat.blt t 192 then env7 t else bif Nat.blt t 216 then env8 t else noTI
theorem env_out : ∀ t, 197 ≤ t → (env t).k = .other := by
  intro t h
  unfold env
  rw [show Nat.ble 197 t = true from Nat.ble_eq_true_of_le h]
  rfl
set_option maxRecDepth 100000 in
theorem envOk : EnvOk Try.prog env := envOk_of (N := 197) (by kernel_rfl) env_out
end Go.AW
/- Arguments of a row, read as data. -/
set_option linter.unusedVariables false
set_option linter.unusedSimpArgs false
namespace Go.AW
/-- Cells of type t, trod, read as data of the form mk x with Q x. -/
def Rd (P : Program) (t : TypeId) {α : Type} (Q : α → Prop) (mk : α → List DV) : Prop :=
  ∀ (H : Type) (enc : TypeId × Value → H) (w : World) (fuel : Nat) (cs : List Value) (d : DataW H) (ps : List MemPlace), DataW.trod enc P w 0 (fun _ => true) true fuel t cs = some (d, ps) → (∀ n ∈ d.weights P t, n ≤ reachBytes) →
    ∃ x, Q x ∧ cs.length = (mk x).length ∧ ∀ (j : Nat) (y : DV), (mk x)[j]? = some y → ∃ u, cs[j]? = some u ∧ RoT w (fun b => b < w.heap.size) u y
section
variable {P : Program} {t e : TypeId}
theorem rd_one {w : World} {F : FP} {u : Value} {d : DV} (h : RoT w F u d) : ∀ (j : Nat) (y : DV), ([d] : List DV)[j]? = some y → ∃ v, ([u] : List Value)[j]? = some v ∧ RoT w F v y
  | 0, y, hy => by simp at hy; subst hy; exact ⟨u, rfl, h⟩
  | j + 1, y, hy => by simp at hy
theorem wf_range {k : IntKind} {n : Int} (h : (Lit.int k n).wf = true) : k.min ≤ n ∧ n ≤ k.max := by
  simpa [Lit.wf] using h
theorem rd_int {k : IntKind} (ht : P.underlying t = some (.int k)) : Rd P t (fun n : Int => k.min ≤ n ∧ n ≤ k.max) (fun n => [.s (.int k n)]) := by
  intro H enc w fuel cs d ps h _
  obtain ⟨n, rfl, _, hw⟩ := DataW.trod_int ht h
  exact ⟨n, wf_range hw, rfl, rd_one (.s _ rfl)⟩
theorem rd_string (ht : P.underlying t = some .string) : Rd P t (fun s : ByteArray => s.size ≤ 140737488351232) (fun s => [.s (.string s)]) := by
  intro H enc w fuel cs d ps h hw
  obtain ⟨s, rfl, he, _⟩ := DataW.trod_string ht h
  cases he
  have := hw s.data.toList.length (by simp [DataW.weights])
  exact ⟨s, by simpa [reachBytes] using this, rfl, rd_one (.s _ rfl)⟩
theorem mem_weightsAll {H : Type} {e : TypeId} : ∀ {ds : List (DataW H)} {d : DataW H}, d ∈ ds → ∀ n ∈ d.weights P e, n ∈ DataW.weightsAll P e ds
  | d0 :: ds, d, hd, n, hn => by
    simp only [DataW.weightsAll, List.mem_append]
    rcases List.mem_cons.mp hd with rfl | hd
    · exact .inl hn
    · exact .inr (mem_weightsAll hd n hn)
theorem rd_slice {sz by' : Nat} (ht : P.underlying t = some (.slice e)) (hsz : P.cellsOf e = sz) (hpos : 0 < sz) (hby : P.bytesOf e = by') {α : Type} [Inhabited α] {Q : α → Prop} {mk : α → List DV} (hmk : ∀ x, (mk x).length = sz) (he : Rd P e Q mk) :
    Rd P t (fun x : Nat × (Nat → α) => x.1 * by' ≤ 140737488351232 ∧ ∀ i, i < x.1 → Q (x.2 i)) (fun x => [.l sz x.1 (fun i => mk (x.2 i))]) := by
  intro H enc w fuel cs d ps h hw
  rcases DataW.trod_slice ht h with ⟨rfl, _⟩ | ⟨a, len, cap, elems, rest, n, _, rfl, hx, _, hl, _, hlen, hel, _, _⟩
  · exact ⟨(0, fun _ => default), ⟨by simp, fun i hi => absurd hi (Nat.not_lt_zero i)⟩, rfl, rd_one (.nl _ _ _ _)⟩
  · cases hx
    have hbound : len * by' ≤ 140737488351232 := by
      have h1 : (elems.length + rest.length) * by' ≤ 140737488351232 := by
        have := hw ((elems.length + rest.length) * P.bytesOf e) (by simp [DataW.weights, ht])
        rw [hby] at this
        simpa [reachBytes] using this
      rw [hlen] at h1
      exact Nat.le_trans (Nat.mul_le_mul_right _ (Nat.le_add_right _ _)) h1
    have hall : ∀ i : Nat, ∃ x : α, i < len → ∃ cs', w.cells? 0 (a.add (i * sz)) sz = some cs' ∧ Q x ∧ cs'.length = (mk x).length ∧ ∀ (j : Nat) (y : DV), (mk x)[j]? = some y → ∃ u, cs'[j]? = some u ∧ RoT w (fun b => b < w.heap.size) u y := by
      intro i
      by_cases hi : i < len
      · have h1 := hel i hi
        rw [hsz, List.getElem?_eq_getElem (by omega), Option.bind_eq_some_iff] at h1
        obtain ⟨cs', hc, h2⟩ := h1
        have hm : elems[i] ∈ elems := List.getElem_mem (by omega)
        obtain ⟨x, q1, q2, q3⟩ := he H enc w n cs' _ _ h2 (fun m hm' => hw m (by
          simp only [DataW.weights, ht, List.mem_cons, List.mem_append]
          exact .inr (.inl (mem_weightsAll (List.mem_map.mpr ⟨_, hm, rfl⟩) m hm'))))
        exact ⟨x, fun _ => ⟨cs', hc, q1, q2, q3⟩⟩
      · exact ⟨default, fun h => absurd h hi⟩
    obtain ⟨X, hX⟩ := Classical.axiomOfChoice hall
    refine ⟨(len, X), ⟨hbound, fun i hi => (hX i hi).choose_spec.2.1⟩, rfl, rd_one ?_⟩
    rcases Nat.eq_zero_or_pos len with h0 | h0
    · subst h0; exact .nl _ _ _ _
    · obtain ⟨cs0, hc0, _, hlen0, _⟩ := hX 0 h0
      obtain ⟨_, hl0, hg0⟩ := World.cells?_some hc0
      have hg1 := hg0 0 hpos
      have hcell : ∃ c t' fr, w.heap[a.block]? = some (.cells c t' fr) ∧ a.spot = none := by
        obtain ⟨c0, hc0'⟩ : ∃ c0, cs0[0]? = some c0 := ⟨cs0[0]'(by omega), List.getElem?_eq_getElem (by omega)⟩
        have hz : (a.add (0 * sz)).add 0 = a := by simp [Addr.add]
        rw [hz, hc0'] at hg1
        unfold World.cell? at hg1
        split at hg1
        · rename_i c t' fr hb
          refine ⟨c, t', fr, hb, ?_⟩
          split at hg1
          · cases hg1
          · rename_i hs
            cases hsp : a.spot with
            | none => rfl
            | some z => rw [hsp] at hs; simp at hs
        · cases hg1
      obtain ⟨c, t', fr, hb, hsp⟩ := hcell
      obtain ⟨b, off, spot⟩ := a
      simp at hb hsp
      subst hsp
      have hlt : b < w.heap.size := by
        rcases Nat.lt_or_ge b w.heap.size with h1 | h1
        · exact h1
        · rw [Array.getElem?_eq_none h1] at hb; cases hb
      have hcellAt : ∀ i j : Nat, i < len → j < sz → ∀ u, (hX' : ∃ cs', w.cells? 0 ((⟨b, off, none⟩ : Addr).add (i * sz)) sz = some cs' ∧ cs'[j]? = some u) → c[off + i * sz + j]? = some u := by
        intro i j hi hj u ⟨cs', hc', hu⟩
        obtain ⟨_, _, hg⟩ := World.cells?_some hc'
        have := hg j hj
        rw [hu] at this
        have e1 : ((⟨b, off, none⟩ : Addr).add (i * sz)).add j = ⟨b, off + i * sz + j, none⟩ := by
          unfold Addr.add
          split <;> split <;> simp_all
        rw [e1] at this
        unfold World.cell? at this
        simp only [hb] at this
        simpa using this
      have hvs : ∀ i j : Nat, ∃ v : Value, ∀ y, i < len → (mk (X i))[j]? = some y → c[off + i * sz + j]? = some v ∧ RoT w (fun b => b < w.heap.size) v y := by
        intro i j
        by_cases hi : i < len
        · obtain ⟨cs', hc', _, hl', hr⟩ := hX i hi
          cases hy : (mk (X i))[j]? with
          | none => exact ⟨.bool true, fun y _ h => by cases h⟩
          | some y =>
            obtain ⟨u, hu, hr'⟩ := hr j y hy
            have hj : j < sz := by
              have := (List.getElem?_eq_some_iff.mp hy).1
              rw [hmk] at this; exact this
            exact ⟨u, fun y' _ h => by cases h; exact ⟨hcellAt i j hi hj u ⟨cs', hc', hu⟩, hr'⟩⟩
        · exact ⟨.bool true, fun y h => absurd h hi⟩
      have hvs2 : ∀ i : Nat, ∃ v : Nat → Value, ∀ j y, i < len → (mk (X i))[j]? = some y → c[off + i * sz + j]? = some (v j) ∧ RoT w (fun b => b < w.heap.size) (v j) y := fun i => Classical.axiomOfChoice (hvs i)
      obtain ⟨vs, hvs3⟩ := Classical.axiomOfChoice hvs2
      exact .bl _ b off len cap sz _ c t' fr vs hlt hb hl (fun i _ => hmk _) (fun i j y hi hj => (hvs3 i j y hi hj).1) (fun i j y hi hj => (hvs3 i j y hi hj).2)

/-- Fields from a place on. -/
def RdF (P : Program) (fs : List Field) (off tot : Nat) {α : Type} (Q : α → Prop) (mk : α → List DV) : Prop :=
  ∀ (H : Type) (enc : TypeId × Value → H) (w : World) (n : Nat) (cs : List Value) (xs : List (DataW H × List MemPlace)), cs.length = tot → xs.length = fs.length →
    (∀ (i : Nat) (f : Field), fs[i]? = some f → DataW.trod enc P w 0 (fun _ => true) true n f.type ((cs.drop f.offset).take (P.cellsOf f.type)) = xs[i]?) →
    (∀ m ∈ DataW.weightsEach P (fs.map (·.type)) (xs.map (·.1)), m ≤ reachBytes) →
    ∃ x, Q x ∧ (cs.drop off).length = (mk x).length ∧ ∀ (j : Nat) (y : DV), (mk x)[j]? = some y → ∃ u, (cs.drop off)[j]? = some u ∧ RoT w (fun b => b < w.heap.size) u y
theorem rdF_nil {tot : Nat} : RdF P [] tot tot (fun _ : Unit => True) (fun _ => []) := by
  intro H enc w n cs xs hl _ _ _
  exact ⟨(), trivial, by simp [hl], fun j y h => by simp at h⟩
theorem rdF_cons {f : Field} {fs : List Field} {off tot c : Nat} {α β : Type} {Q : α → Prop} {mk : α → List DV} {Q' : β → Prop} {mk' : β → List DV} (ho : f.offset = off) (hc : P.cellsOf f.type = c) (hle : off + c ≤ tot)
    (h : Rd P f.type Q mk) (hf : RdF P fs (off + c) tot Q' mk') : RdF P (f :: fs) off tot (fun x : α × β => Q x.1 ∧ Q' x.2) (fun x => mk x.1 ++ mk' x.2) := by
  intro H enc w n cs xs hl hxl hx hw
  cases xs with
  | nil => simp at hxl
  | cons x0 xs =>
    have h0 := hx 0 f rfl
    rw [ho, hc] at h0
    simp only [List.getElem?_cons_zero] at h0
    simp only [List.map_cons, DataW.weightsEach, List.mem_append] at hw
    obtain ⟨a, q1, l1, r1⟩ := h H enc w n _ _ _ h0 (fun m hm => hw m (.inl hm))
    obtain ⟨b, q2, l2, r2⟩ := hf H enc w n cs xs hl (by simpa using hxl) (fun i g hg => by simpa using hx (i + 1) g (by simpa using hg)) (fun m hm => hw m (.inr hm))
    have hlen : ((cs.drop off).take c).length = c := by simp; omega
    have hdrop : cs.drop off = (cs.drop off).take c ++ cs.drop (off + c) := by rw [← List.drop_drop, List.take_append_drop]
    refine ⟨(a, b), ⟨q1, q2⟩, ?_, fun j y hy => ?_⟩
    · rw [hdrop, List.length_append, List.length_append, l1, l2]
    · rw [hdrop]
      rcases Nat.lt_or_ge j (mk a).length with hj | hj
      · rw [List.getElem?_append_left hj] at hy
        obtain ⟨u, hu, hr⟩ := r1 j y hy
        exact ⟨u, by rw [List.getElem?_append_left (by rw [l1]; exact hj)]; exact hu, hr⟩
      · rw [List.getElem?_append_right hj] at hy
        obtain ⟨u, hu, hr⟩ := r2 _ y hy
        exact ⟨u, by rw [List.getElem?_append_right (by rw [l1]; exact hj), l1]; exact hu, hr⟩
theorem rd_struct {fs : Array Field} {tot : Nat} (ht : P.underlying t = some (.struct fs)) (hc : P.cellsOf t = tot) {α : Type} {Q : α → Prop} {mk : α → List DV} (h : RdF P fs.toList 0 tot Q mk) : Rd P t Q mk := by
  intro H enc w fuel cs d ps hd hw
  obtain ⟨xs, n, _, hx, hl, hxl, hf⟩ := DataW.trod_struct ht hd
  cases hx
  obtain ⟨x, q, l, r⟩ := h H enc w n cs xs (by rw [hl, hc]) (by simpa using hxl) (fun i f hi => hf i f (by simpa using hi)) (fun m hm => hw m (by simpa [DataW.weights, ht] using hm))
  exact ⟨x, q, by simpa using l, fun j y hy => by simpa using r j y hy⟩
/-- The same, told in other words. -/
theorem rd_as {α β : Type} {Q : α → Prop} {mk : α → List DV} {Q' : β → Prop} {mk' : β → List DV} (h : Rd P t Q mk) (f : α → β) (hq : ∀ x, Q x → Q' (f x)) (hm : ∀ x, mk' (f x) = mk x) : Rd P t Q' mk' := by
  intro H enc w fuel cs d ps hd hw
  obtain ⟨x, q, l, r⟩ := h H enc w fuel cs d ps hd hw
  exact ⟨f x, hq x q, by rw [hm]; exact l, fun j y hy => r j y (by rw [← hm]; exact hy)⟩
end

/-! ### A law's call -/
section
variable {P : Program} {f : FuncId} {fn : Func} {c : Code}
/-- A contract's call, in the world's words: a law that answers true and changes nothing. -/
theorem below_of_pret {das : List DP} (hf : P.funcs[f]? = some fn) (hname : (fn.name == "runtime.NumGoroutine") = false) (hb : fn.body = some c) (h : PRet P f (das.map AM.r) [.c (.s (.bool true))] []) (w : World) (us : List Value)
    (hl : us.length = das.length) (ha : ∀ (i : Nat) (d : DP), das[i]? = some d → ∃ u, us[i]? = some u ∧ ArgT w (fun b => b < w.heap.size) d u) : Calls P f us.toArray w fun e w' => e = .returned (.bool true) ∧ Go.RowKit.Below w.heap.size w w' := by
  have hins : ∀ (das : List DP) (us : List Value), us.length = das.length → (∀ (i : Nat) (d : DP), das[i]? = some d → ∃ u, us[i]? = some u ∧ ArgT w (fun b => b < w.heap.size) d u) → InsT w (AnyL []) (das.map AM.r) us [] := by
    intro das
    induction das with
    | nil => intro us hl _; cases us with
      | nil => exact .nil
      | cons u us => simp at hl
    | cons d das ih => intro us hl ha; cases us with
      | nil => simp at hl
      | cons u us =>
        obtain ⟨u', hu, ha0⟩ := ha 0 d rfl
        simp at hu; subst hu
        exact .r _ d u _ us [] ha0 (fun b hb => ⟨hb, anyL_nil b⟩) (ih us (by simpa using hl) fun i d' hd => by simpa using ha (i + 1) d' (by simpa using hd))
  rcases h w us [] (hins das us hl ha) List.Pairwise.nil (fun x hx => absurd hx (anyL_nil x)) with ⟨u, w', h1, _⟩ | ⟨_, h2⟩
  · rw [run_callFunc hf hname hb] at h1
    cases h1
  · refine h2.mono fun e w' ⟨u, he, rs, outs, vs, Gs, Hs, ⟨hr1, hr2⟩, hu, hown, _, _, _, hk⟩ => ?_
    subst hr1
    have hu' : u = .bool true := by
      cases hown with
      | cons F d v ds us Fs h ht =>
        cases ht
        rw [hu]
        cases h
        rfl
    rw [he, hu']
    exact ⟨rfl, hk.os, hk.tape, hk.output, hk.size, fun b hb => hk.old b hb (fun h => absurd h (anyL_nil b))⟩
end
end Go.AW
/- The abstract calculus: a callee walked within the caller's state. -/
set_option linter.unusedVariables false
set_option linter.unusedSimpArgs false
namespace Go.AW

/-- Behind the callee's body: its results, the caller's slots again. -/
def inExit (E : Env) (rts : List ResultVar) (fid : Nat) (us : List Value) (k : V → St → Prop) : Exit → St → Prop := fun e σ' =>
  match e with
  | .normal | .ret => match allS (resV1 E σ') rts, look σ'.store fid with
    | some rs, some (.frame us' vs') => us' = us ∧ k (mapV (killA fid) (packV1 rs)) (forget1 ⟨vs', σ'.store, σ'.next⟩ fid)
    | _, _ => False
  | _ => False
def inSt (ntmps : Nat) (vs : List V) (us : List Value) (σ : St) : St := ⟨vs ++ List.replicate (ntmps - vs.length) undefV, (σ.next, .frame us σ.slots) :: σ.store, σ.next + 1⟩

section
variable {P : Program} {w0 w w' : World} {mine : FP} {γ γ' : Ghost} {σ : St} {a : Act} {k : V → St → Prop} {E : Env}

theorem csem_inline (hE : EnvOk P E) (hm : P.follows .mixedOrders = true) {f : FuncId} {fn : Func} {c : Code} (hf : P.funcs[f]? = some fn) (hname : (fn.name == "runtime.NumGoroutine") = false) (hb : fn.body = some c) {rts : List ResultVar} (hres : fn.results.toList = rts)
    {vs : List V} (hnt : vs.length ≤ fn.ntmps)
    (h : ∀ us : List Value, AWP std E (Csem P w0 mine) (Lsem w0 mine) c (inSt fn.ntmps vs us σ) (inExit E rts σ.next us k)) : Csem P w0 mine f vs σ k := by
  intro γ a w args R hA
  refine .inr ⟨run_callFunc hf hname hb _ _, ?_⟩
  refine calls_of_wp hf hb ?_
  have hobj : RObj (γ.add σ.next ⟨none, 0, 0, 0, 0⟩ (fun _ => False)) w σ.next ⟨none, 0, 0, 0, 0⟩ (.frame a.tmps.toList σ.slots) := by
    have S := step_add (w := w) (w' := w) R.st.lt ⟨none, 0, 0, 0, 0⟩ (fun _ => False) (fun b o h => h)
    refine ⟨rfl, rfl, by simp [R.size], fun i => ?_⟩
    have := RV.step0 S (R.slots i)
    simpa [Array.getD_eq_getD_getElem?, List.getD_eq_getElem?_getD] using this
  have S := step_add (w := w) (w' := w) R.st.lt ⟨none, 0, 0, 0, 0⟩ (fun _ => False) (fun b o h => h)
  have R1 := R.fresh (w' := w) (fun b o h => h) R.st.keep (Nat.le_refl _) ⟨none, 0, 0, 0, 0⟩ (fun _ => False) _ hobj (fun b hb => hb.elim)
  let a0 : Act := { tmps := args.toArray ++ Array.replicate (fn.ntmps - args.toArray.size) undef, defers := [] }
  have hget : ∀ i, a0.tmps.getD i undef = args.getD i undef := by
    intro i
    simp only [a0, Array.getD_eq_getD_getElem?, List.getD_eq_getElem?_getD, Array.getElem?_append]
    by_cases hi : i < args.length
    · simp [hi]
    · simp only [List.size_toArray, hi, if_false, Array.getElem?_replicate]
      rw [List.getElem?_eq_none (by omega)]
      split <;> rfl
  have RS : Rel w0 mine (γ.add σ.next ⟨none, 0, 0, 0, 0⟩ (fun _ => False)) (inSt fn.ntmps vs a.tmps.toList σ) a0 w := by
    refine ⟨?_, fun i => ?_, R1.st⟩
    · have := hA.1
      simp [a0, inSt, this]
    · rw [hget, getN_getD]
      simp only [inSt, List.getD_eq_getElem?_getD]
      by_cases hi : i < vs.length
      · rw [List.getElem?_append_left hi]
        obtain ⟨u, hu, hr⟩ := hA.2 i _ (List.getElem?_eq_getElem hi)
        rw [hu, List.getElem?_eq_getElem hi]
        exact RV.step0 S hr
      · rw [List.getElem?_append_right (by omega), List.getElem?_replicate]
        have : (if i - vs.length < fn.ntmps - vs.length then some undefV else none).getD undefV = undefV := by split <;> rfl
        rw [this, List.getElem?_eq_none (l := args) (by have := hA.1; omega)]
        exact rv_undef
  refine AWP_sound (Q := bodyPost P fn fun e w' => ∃ u, e = .returned u ∧ Post w0 mine a k u w') hE hm c _ _ (Anch [] []) _ a0 w (keepsC_of c (noDst_nil c)) RS ⟨rfl, by simp, fun i hi => by simp at hi⟩ ?_ (h a.tmps.toList)
  intro e σ1 γ1 a1 w1 he R1 hd
  have key : inExit E rts σ.next a.tmps.toList k .ret σ1 → a1.defers = [] ∧ ∃ v, (results fn a1.tmps).run P w1 = .ok v w1 ∧ ∃ u, Ending.returned v = .returned u ∧ Post w0 mine a k u w1 := by
    intro he
    simp only [inExit] at he
    split at he
    · rename_i rs us' vs' hrs hl
      obtain ⟨rfl, hk⟩ := he
      obtain ⟨rus, r1, r2, r3⟩ := run_results hE R1 fn rts hres hrs
      refine ⟨hd.1, _, r3, _, rfl, ?_⟩
      obtain ⟨g, hg, hro⟩ := R1.st.objs _ _ hl
      obtain ⟨_, _, h3, h4⟩ := hro
      have Ra : Rel w0 mine γ1 ⟨vs', σ1.store, σ1.next⟩ a w1 := by
        refine ⟨by simpa using h3, fun i => ?_, R1.st⟩
        have := h4 i
        simpa [Array.getD_eq_getD_getElem?, List.getD_eq_getElem?_getD] using this
      have S2 : Step γ1 (γ1.del σ.next) w1 w1 (fun i => i = σ.next) (fun i => i = σ.next) (fun i => i = σ.next) := {
        root := fun i g b o h _ _ hb ho => ⟨hb, ho⟩
        g := fun i g h hne => by simp only [Ghost.del]; rw [if_neg hne]; exact h
        fp := fun i g h _ b hb => hb
        ext := fun i g h _ => Ext.refl _ _
        ro := fun b hb => hb
        rext := Ext.refl _ _ }
      exact ⟨_, _, _, hk, Ra.drop1 σ.next, (rv_pack r1 r2).kill S2 (kills_A σ.next)⟩
    · exact he.elim
  cases e <;> simp only [inExit, bodyPost] at he ⊢
  · exact key he
  · exact key he
end
theorem call_in {P : Program} {E : Env} {w0 : World} {mine : FP} {σ : St} {k : V → St → Prop} {D : Ops} {C : CallT} {L : LoopT} (hE : EnvOk P E) (hm : P.follows .mixedOrders = true) {f : FuncId} {fn : Func} {c : Code} (hf : P.funcs[f]? = some fn) (hname : (fn.name == "runtime.NumGoroutine") = false) (hb : fn.body = some c) {rts : List ResultVar} (hres : fn.results.toList = rts)
    {vs : List V} (hD : D = std) (hC : C = Csem P w0 mine) (hL : L = Lsem w0 mine) (hnt : Nat.ble vs.length fn.ntmps = true)
    (h : ∀ us : List Value, AWP D E C L c (inSt fn.ntmps vs us σ) (inExit E rts σ.next us k)) : C f vs σ k := by
  subst hD hC hL
  exact csem_inline hE hm hf hname hb hres (Nat.le_of_ble_eq_true hnt) h
end Go.AW
/- The abstract calculus, part 30: data as lists; user's terms kept from being evaluated. -/
set_option linter.unusedVariables false
set_option linter.unusedSimpArgs false
namespace Go.AW

/-! ### Contracts whose data are told through the operations, the user's terms behind u -/
abbrev UT := (α : Type) → α → α
def uid : UT := fun _ x => x
def PX (P : Program) (f : FuncId) (das : Ops → UT → List AM) (rs outs : Ops → UT → List DR) : Prop := PRet P f (das std uid) (rs std uid) (outs std uid)
theorem px_of_awp {P : Program} {E : Env} (hE : EnvOk P E) (hm : P.follows .mixedOrders = true) {f : FuncId} {fn : Func} {c : Code} (hf : P.funcs[f]? = some fn) (hname : (fn.name == "runtime.NumGoroutine") = false) (hb : fn.body = some c) {rts : List ResultVar} (hres : fn.results.toList = rts)
    {das : Ops → UT → List AM} {rs outs : Ops → UT → List DR} (hnd : noDst (lentIx (das std uid) 0) c = true) (hnt : Nat.ble (das std uid).length fn.ntmps = true)
    (h : ∀ (w0 : World) (mine : FP) (D : Ops) (u : UT) (C : CallT) (L : LoopT), D = std → u = uid → C = Csem P w0 mine → L = Lsem w0 mine → AWP D E C L c (startSt fn.ntmps (das D u)) (exitP D E rts (das D u) fun x y => drsLe x (rs D u) ∧ drsLe y (outs D u))) : PX P f das rs outs :=
  pret_of_awp hE hm hf hname hb hres hnd hnt fun w0 mine D C L hD hC hL => by
    subst hD
    exact h w0 mine std uid C L rfl rfl hC hL
def PXR (P : Program) (f : FuncId) (das : Ops → UT → List AM) (post : List DR → List DR → Prop) : Prop := PCon P f (das std uid) post
theorem callx {P : Program} {w0 : World} {mine : FP} {σ : St} {k : V → St → Prop} {f : FuncId} {D : Ops} {u : UT} {C : CallT} {vs : List V} {das : Ops → UT → List AM} {rs outs : Ops → UT → List DR}
    (hD : D = std) (hu : u = uid) (hC : C = Csem P w0 mine) (h : PX P f das rs outs) (hk : callR D (das D u) vs σ (rs D u) (outs D u) k) : C f vs σ k := by
  subst hD hu
  exact call_of rfl hC h hk
theorem px_of {P : Program} {f : FuncId} {das : Ops → UT → List AM} {rs outs : Ops → UT → List DR} (h : PRet P f (das std uid) (rs std uid) (outs std uid)) : PX P f das rs outs := h

/-! ### Lists in rows -/
def eL {α : Type} (D : Ops) (sz : Nat) (d : α) (row : α → List DV) (l : List α) : DV := .l sz (D.lenL α l) fun i => row (D.nthL α d l i)
/-- Rows f below n are the rows of a list. -/
def LR {α : Type} (row : α → List DV) (d : α) (f : Nat → List DV) (n : Nat) (l : List α) : Prop := n = l.length ∧ ∀ i, i < n → allLe DEq (f i) (row (l.getD i d))
theorem aLe_rfl : ∀ l : List DV, allLe DEq l l
  | [] => trivial
  | d :: l => ⟨DEq.rfl' d, aLe_rfl l⟩
section
variable {α : Type} {row : α → List DV} {d : α} {f g : Nat → List DV} {n m : Nat} {l l' : List α}
theorem LR.refl : LR row d (fun i => row (l.getD i d)) l.length l := ⟨rfl, fun _ _ => aLe_rfl _⟩
theorem LR.rfl' (h : n = l.length) : LR row d (fun i => row (std.nthL α d l i)) n l := ⟨h, fun _ _ => aLe_rfl _⟩
theorem LR.nil : LR row d f 0 [] := ⟨rfl, fun i hi => absurd hi (Nat.not_lt_zero i)⟩
theorem LR.one {x : α} (h : allLe DEq (f 0) (row x)) : LR row d f 1 [x] := ⟨rfl, fun i hi => by
  obtain rfl : i = 0 := by omega
  exact h⟩
theorem LR.rep {x : α} {r : List DV} (h : allLe DEq r (row x)) : LR row d (fun _ => r) n (List.replicate n x) := ⟨by simp, fun i hi => by
  rw [List.getD_eq_getElem?_getD, List.getElem?_replicate, if_pos hi]
  exact h⟩
theorem LR.cat (h : LR row d f n l) (h' : LR row d g m l') : LR row d (catR n f m g) (n + m) (l ++ l') := by
  obtain ⟨rfl, h1⟩ := h
  obtain ⟨rfl, h2⟩ := h'
  refine ⟨by simp, fun i hi => ?_⟩
  simp only [catR]
  split
  · rename_i c
    have := h2 (i - l.length) (by omega)
    rw [List.getD_eq_getElem?_getD, List.getElem?_append_right c.1]
    rwa [List.getD_eq_getElem?_getD] at this
  · have := h1 i (by omega)
    rw [List.getD_eq_getElem?_getD, List.getElem?_append_left (by omega)]
    rwa [List.getD_eq_getElem?_getD] at this
theorem LR.cat' (h : LR row d f n l) (h' : LR row d g m l') : LR row d (catR n f m g) (std.addN n m) (l ++ l') := h.cat h'
theorem LR.set {x : α} {k : Nat} {r : List DV} (h : LR row d f n l) (h' : allLe DEq r (row x)) : LR row d (std.setF f k r) n (l.set k x) := by
  obtain ⟨rfl, h1⟩ := h
  refine ⟨by simp, fun i hi => ?_⟩
  simp only [std]
  rw [List.getD_eq_getElem?_getD, List.getElem?_set]
  split
  · rename_i e; subst e
    simp only [if_true, hi]
    exact h'
  · rename_i e
    rw [if_neg (fun h => e h.symm)]
    have := h1 i hi
    rwa [List.getD_eq_getElem?_getD] at this
theorem LR.sh {a : Nat} (h : LR row d f n l) (ha : a + m ≤ n) : LR row d (fun i => f (a + i)) m ((l.drop a).take m) := by
  obtain ⟨rfl, h1⟩ := h
  refine ⟨by simp; omega, fun i hi => ?_⟩
  have := h1 (a + i) (by omega)
  rw [List.getD_eq_getElem?_getD, List.getElem?_take, if_pos hi, List.getElem?_drop]
  rwa [List.getD_eq_getElem?_getD] at this
theorem LR.cut (h : LR row d f n l) (ha : m ≤ n) : LR row d f m (l.take m) := by
  obtain ⟨rfl, h1⟩ := h
  refine ⟨by simp; omega, fun i hi => ?_⟩
  have := h1 i (by omega)
  rw [List.getD_eq_getElem?_getD, List.getElem?_take, if_pos hi]
  rwa [List.getD_eq_getElem?_getD] at this
theorem LR.to {l'' : List α} (h : LR row d f n l) (e : l = l'') : LR row d f n l'' := e ▸ h
theorem LR.deq {sz : Nat} (h : LR row d f n l) : DEq (.l sz n f) (eL std sz d row l) := by
  obtain ⟨rfl, h1⟩ := h
  refine .l sz _ _ _ (fun i hi => (allLe_get (h1 i hi)).1) fun i j y0 y' hi e1 e2 => ?_
  obtain ⟨y, hy, h3⟩ := (allLe_get (h1 i hi)).2 j y' e2
  rw [e1] at hy; cases hy; exact h3
theorem LR.deq2 {sz : Nat} (h : LR row d f n l) : DEq (.l sz n f) (.l sz n (fun i => row (std.nthL α d l i))) := by
  have e := h.deq (sz := sz)
  unfold eL at e
  rw [show std.lenL α l = n from h.1.symm] at e
  exact e
theorem LR.len (h : LR row d f n l) : n = l.length := h.1
/-- The same as another list's rows. -/
theorem LR.same {l1 : List α} (h : n = l1.length) (hf : ∀ i, i < n → f i = row (l1.getD i d)) : LR row d f n l1 := ⟨h, fun i hi => by rw [hf i hi]; exact aLe_rfl _⟩
end
end Go.AW
namespace Go.AW
/-! ### Loops -/
def oL {α : Type} (D : Ops) (sz : Nat) (d : α) (row : α → List DV) (l : List α) : Obj := .deep sz (D.lenL α l) fun i => row (D.nthL α d l i)
def vO {α : Type} (D : Ops) (id : Nat) (l : List α) : V := .one (.lf (.o id 0 (D.lenL α l)))
section
variable {w0 : World} {mine : FP} {L : LoopT} {c : Code} {A : St → (Exit → St → Prop) → Prop} {σ : St} {K : Exit → St → Prop}
/-- A loop that counts, with a state. -/
theorem loop_st (hL : L = Lsem w0 mine) {S : Type} (n : Nat) (inv : Nat → S → Prop) (s0 : S) (vars : Nat → S → List (Nat × V)) (over : Nat → S → List (Nat × Obj)) (h0 : inv 0 s0) (hs : stLe' σ (hav c σ (vars 0 s0) (over 0 s0)))
    (hb : ∀ k s, k ≤ n → inv k s → A (hav c σ (vars k s) (over k s)) fun e σ' => match e with
      | .normal => ∃ (k' : Nat) (s' : S), k' ≤ n ∧ inv k' s' ∧ Ssem w0 mine σ' (hav c σ (vars k' s') (over k' s')) ∧ n - k' < n - k
      | e => K e σ') : L false c A σ K := by
  refine loop_of hL (ι := Nat × S) (fun x => vars x.1 x.2) (fun x => over x.1 x.2) (fun x => x.1 ≤ n ∧ inv x.1 x.2) (fun x => n - x.1) (0, s0) ⟨Nat.zero_le _, h0⟩ hs fun x hx => ?_
  have := hb x.1 x.2 hx.1 hx.2
  refine Eq.mp (congrArg (A (hav c σ (vars x.1 x.2) (over x.1 x.2))) ?_) this
  funext e σ'
  cases e <;> simp [Prod.exists, and_assoc]
/-- A loop with a state and a measure. -/
theorem loop_mu (hL : L = Lsem w0 mine) {S : Type} (inv : S → Prop) (μ : S → Nat) (s0 : S) (vars : S → List (Nat × V)) (over : S → List (Nat × Obj)) (h0 : inv s0) (hs : stLe' σ (hav c σ (vars s0) (over s0)))
    (hb : ∀ s, inv s → A (hav c σ (vars s) (over s)) fun e σ' => match e with
      | .normal => ∃ s' : S, inv s' ∧ Ssem w0 mine σ' (hav c σ (vars s') (over s')) ∧ μ s' < μ s
      | e => K e σ') : L false c A σ K :=
  loop_of hL vars over inv μ s0 h0 hs hb
end
end Go.AW
/- The program's data as Lean structures, and how they lie in cells. -/
set_option linter.unusedVariables false
set_option linter.unusedSimpArgs false
namespace Go.AW
abbrev Str := List UInt8
def rB (D : Ops) (u : UT) (x : UInt8) : List DV := [.s (.int .u8 (D.u8I x))]
def rR (D : Ops) (u : UT) (x : Int) : List DV := [.s (.int .i32 x)]
def rN (D : Ops) (u : UT) (x : Int) : List DV := [.s (.int .i64 x)]
def rT (D : Ops) (u : UT) (x : Str) : List DV := [.s (.string (D.strB x))]
def lB (D : Ops) (u : UT) (l : Str) : DV := eL D 1 0 (rB D u) l
def lR (D : Ops) (u : UT) (l : List Int) : DV := eL D 1 0 (rR D u) l
def lN (D : Ops) (u : UT) (l : List Int) : DV := eL D 1 0 (rN D u) l
def lT (D : Ops) (u : UT) (l : List Str) : DV := eL D 1 [] (rT D u) l
structure Clu where
  runes : List Int
  width : Int
abbrev dClu : Clu := ⟨[], 0⟩
def rClu (D : Ops) (u : UT) (x : Clu) : List DV := [lR D u (u _ x.runes), .s (.int .i64 (u _ x.width))]
def lClu (D : Ops) (u : UT) (l : List Clu) : DV := eL D 2 dClu (rClu D u) l
def rCluS (D : Ops) (u : UT) (x : List Clu) : List DV := [lClu D u x]
def lCluS (D : Ops) (u : UT) (l : List (List Clu)) : DV := eL D 1 [] (rCluS D u) l
theorem mClu {c1 c2 : DV} {vrunes : List Int} {vwidth : Int} (h1 : DEq c1 (lR std uid vrunes)) (h2 : DEq c2 (.s (.int .i64 vwidth))) : allLe DEq [c1, c2] (rClu std uid ⟨vrunes, vwidth⟩) := ⟨h1, h2, trivial⟩
structure Cel where
  text : Str
  half : Bool
abbrev dCel : Cel := ⟨[], false⟩
def rCel (D : Ops) (u : UT) (x : Cel) : List DV := [.s (.string (D.strB (u _ x.text))), .s (.bool (u _ x.half))]
def lCel (D : Ops) (u : UT) (l : List Cel) : DV := eL D 2 dCel (rCel D u) l
def rCelS (D : Ops) (u : UT) (x : List Cel) : List DV := [lCel D u x]
def lCelS (D : Ops) (u : UT) (l : List (List Cel)) : DV := eL D 1 [] (rCelS D u) l
theorem mCel {c1 c2 : DV} {vtext : Str} {vhalf : Bool} (h1 : DEq c1 (.s (.string (std.strB vtext)))) (h2 : DEq c2 (.s (.bool vhalf))) : allLe DEq [c1, c2] (rCel std uid ⟨vtext, vhalf⟩) := ⟨h1, h2, trivial⟩
structure Scr where
  cols : Int
  rows : Int
  grid : List (List Cel)
  row : Int
  col : Int
  late : Bool
  hold : Str
  back : List Str
abbrev dScr : Scr := ⟨0, 0, [], 0, 0, false, [], []⟩
def rScr (D : Ops) (u : UT) (x : Scr) : List DV := [.s (.int .i64 (u _ x.cols)), .s (.int .i64 (u _ x.rows)), lCelS D u (u _ x.grid), .s (.int .i64 (u _ x.row)), .s (.int .i64 (u _ x.col)), .s (.bool (u _ x.late)), lB D u (u _ x.hold), lT D u (u _ x.back)]
def lScr (D : Ops) (u : UT) (l : List Scr) : DV := eL D 8 dScr (rScr D u) l
theorem mScr {c1 c2 c3 c4 c5 c6 c7 c8 : DV} {vcols : Int} {vrows : Int} {vgrid : List (List Cel)} {vrow : Int} {vcol : Int} {vlate : Bool} {vhold : Str} {vback : List Str} (h1 : DEq c1 (.s (.int .i64 vcols))) (h2 : DEq c2 (.s (.int .i64 vrows))) (h3 : DEq c3 (lCelS std uid vgrid)) (h4 : DEq c4 (.s (.int .i64 vrow))) (h5 : DEq c5 (.s (.int .i64 vcol))) (h6 : DEq c6 (.s (.bool vlate))) (h7 : DEq c7 (lB std uid vhold)) (h8 : DEq c8 (lT std uid vback)) : allLe DEq [c1, c2, c3, c4, c5, c6, c7, c8] (rScr std uid ⟨vcols, vrows, vgrid, vrow, vcol, vlate, vhold, vback⟩) := ⟨h1, h2, h3, h4, h5, h6, h7, h8, trivial⟩
structure KRd where
  hold : Str
  paste : Bool
abbrev dKRd : KRd := ⟨[], false⟩
def rKRd (D : Ops) (u : UT) (x : KRd) : List DV := [lB D u (u _ x.hold), .s (.bool (u _ x.paste))]
def lKRd (D : Ops) (u : UT) (l : List KRd) : DV := eL D 2 dKRd (rKRd D u) l
theorem mKRd {c1 c2 : DV} {vhold : Str} {vpaste : Bool} (h1 : DEq c1 (lB std uid vhold)) (h2 : DEq c2 (.s (.bool vpaste))) : allLe DEq [c1, c2] (rKRd std uid ⟨vhold, vpaste⟩) := ⟨h1, h2, trivial⟩
structure Key where
  kind : Int
  runes : List Int
abbrev dKey : Key := ⟨0, []⟩
def rKey (D : Ops) (u : UT) (x : Key) : List DV := [.s (.int .i64 (u _ x.kind)), lR D u (u _ x.runes)]
def lKey (D : Ops) (u : UT) (l : List Key) : DV := eL D 2 dKey (rKey D u) l
theorem mKey {c1 c2 : DV} {vkind : Int} {vrunes : List Int} (h1 : DEq c1 (.s (.int .i64 vkind))) (h2 : DEq c2 (lR std uid vrunes)) : allLe DEq [c1, c2] (rKey std uid ⟨vkind, vrunes⟩) := ⟨h1, h2, trivial⟩
structure Snp where
  left : Str
  right : Str
abbrev dSnp : Snp := ⟨[], []⟩
def rSnp (D : Ops) (u : UT) (x : Snp) : List DV := [.s (.string (D.strB (u _ x.left))), .s (.string (D.strB (u _ x.right)))]
def lSnp (D : Ops) (u : UT) (l : List Snp) : DV := eL D 2 dSnp (rSnp D u) l
theorem mSnp {c1 c2 : DV} {vleft : Str} {vright : Str} (h1 : DEq c1 (.s (.string (std.strB vleft)))) (h2 : DEq c2 (.s (.string (std.strB vright)))) : allLe DEq [c1, c2] (rSnp std uid ⟨vleft, vright⟩) := ⟨h1, h2, trivial⟩
structure Lin where
  left : Str
  right : Str
  kill : Str
  undo : List Snp
abbrev dLin : Lin := ⟨[], [], [], []⟩
def rLin (D : Ops) (u : UT) (x : Lin) : List DV := [.s (.string (D.strB (u _ x.left))), .s (.string (D.strB (u _ x.right))), .s (.string (D.strB (u _ x.kill))), lSnp D u (u _ x.undo)]
def lLin (D : Ops) (u : UT) (l : List Lin) : DV := eL D 4 dLin (rLin D u) l
theorem mLin {c1 c2 c3 c4 : DV} {vleft : Str} {vright : Str} {vkill : Str} {vundo : List Snp} (h1 : DEq c1 (.s (.string (std.strB vleft)))) (h2 : DEq c2 (.s (.string (std.strB vright)))) (h3 : DEq c3 (.s (.string (std.strB vkill)))) (h4 : DEq c4 (lSnp std uid vundo)) : allLe DEq [c1, c2, c3, c4] (rLin std uid ⟨vleft, vright, vkill, vundo⟩) := ⟨h1, h2, h3, h4, trivial⟩
structure His where
  cap : Int
  items : List Str
abbrev dHis : His := ⟨0, []⟩
def rHis (D : Ops) (u : UT) (x : His) : List DV := [.s (.int .i64 (u _ x.cap)), lT D u (u _ x.items)]
def lHis (D : Ops) (u : UT) (l : List His) : DV := eL D 2 dHis (rHis D u) l
theorem mHis {c1 c2 : DV} {vcap : Int} {vitems : List Str} (h1 : DEq c1 (.s (.int .i64 vcap))) (h2 : DEq c2 (lT std uid vitems)) : allLe DEq [c1, c2] (rHis std uid ⟨vcap, vitems⟩) := ⟨h1, h2, trivial⟩
structure Blk where
  rows : List Str
  row : Int
  col : Int
abbrev dBlk : Blk := ⟨[], 0, 0⟩
def rBlk (D : Ops) (u : UT) (x : Blk) : List DV := [lT D u (u _ x.rows), .s (.int .i64 (u _ x.row)), .s (.int .i64 (u _ x.col))]
def lBlk (D : Ops) (u : UT) (l : List Blk) : DV := eL D 3 dBlk (rBlk D u) l
theorem mBlk {c1 c2 c3 : DV} {vrows : List Str} {vrow : Int} {vcol : Int} (h1 : DEq c1 (lT std uid vrows)) (h2 : DEq c2 (.s (.int .i64 vrow))) (h3 : DEq c3 (.s (.int .i64 vcol))) : allLe DEq [c1, c2, c3] (rBlk std uid ⟨vrows, vrow, vcol⟩) := ⟨h1, h2, h3, trivial⟩
structure Ses where
  prompt : Str
  cols : Int
  rows : Int
  line : Lin
  keys : KRd
  nav : Bool
  past : List Str
  at_ : Int
  draft : Str
  stopped : Bool
  queue : List Str
  log : List Str
  done : List Str
abbrev dSes : Ses := ⟨[], 0, 0, dLin, dKRd, false, [], 0, [], false, [], [], []⟩
def rSes (D : Ops) (u : UT) (x : Ses) : List DV := [.s (.string (D.strB (u _ x.prompt))), .s (.int .i64 (u _ x.cols)), .s (.int .i64 (u _ x.rows)), .s (.string (D.strB (u _ x.line.left))), .s (.string (D.strB (u _ x.line.right))), .s (.string (D.strB (u _ x.line.kill))), lSnp D u (u _ x.line.undo), lB D u (u _ x.keys.hold), .s (.bool (u _ x.keys.paste)), .s (.bool (u _ x.nav)), lT D u (u _ x.past), .s (.int .i64 (u _ x.at_)), .s (.string (D.strB (u _ x.draft))), .s (.bool (u _ x.stopped)), lT D u (u _ x.queue), lT D u (u _ x.log), lT D u (u _ x.done)]
def lSes (D : Ops) (u : UT) (l : List Ses) : DV := eL D 17 dSes (rSes D u) l
theorem mSes {c1 c2 c3 c4 c5 c6 c7 c8 c9 c10 c11 c12 c13 c14 c15 c16 c17 : DV} {vprompt : Str} {vcols : Int} {vrows : Int} {vline_left : Str} {vline_right : Str} {vline_kill : Str} {vline_undo : List Snp} {vkeys_hold : Str} {vkeys_paste : Bool} {vnav : Bool} {vpast : List Str} {vat_ : Int} {vdraft : Str} {vstopped : Bool} {vqueue : List Str} {vlog : List Str} {vdone : List Str} (h1 : DEq c1 (.s (.string (std.strB vprompt)))) (h2 : DEq c2 (.s (.int .i64 vcols))) (h3 : DEq c3 (.s (.int .i64 vrows))) (h4 : DEq c4 (.s (.string (std.strB vline_left)))) (h5 : DEq c5 (.s (.string (std.strB vline_right)))) (h6 : DEq c6 (.s (.string (std.strB vline_kill)))) (h7 : DEq c7 (lSnp std uid vline_undo)) (h8 : DEq c8 (lB std uid vkeys_hold)) (h9 : DEq c9 (.s (.bool vkeys_paste))) (h10 : DEq c10 (.s (.bool vnav))) (h11 : DEq c11 (lT std uid vpast)) (h12 : DEq c12 (.s (.int .i64 vat_))) (h13 : DEq c13 (.s (.string (std.strB vdraft)))) (h14 : DEq c14 (.s (.bool vstopped))) (h15 : DEq c15 (lT std uid vqueue)) (h16 : DEq c16 (lT std uid vlog)) (h17 : DEq c17 (lT std uid vdone)) : allLe DEq [c1, c2, c3, c4, c5, c6, c7, c8, c9, c10, c11, c12, c13, c14, c15, c16, c17] (rSes std uid ⟨vprompt, vcols, vrows, ⟨vline_left, vline_right, vline_kill, vline_undo⟩, ⟨vkeys_hold, vkeys_paste⟩, vnav, vpast, vat_, vdraft, vstopped, vqueue, vlog, vdone⟩) := ⟨h1, h2, h3, h4, h5, h6, h7, h8, h9, h10, h11, h12, h13, h14, h15, h16, h17, trivial⟩
structure Wld where
  hist : His
  sessions : List Ses
  screens : List Scr
abbrev dWld : Wld := ⟨dHis, [], []⟩
def rWld (D : Ops) (u : UT) (x : Wld) : List DV := [.s (.int .i64 (u _ x.hist.cap)), lT D u (u _ x.hist.items), lSes D u (u _ x.sessions), lScr D u (u _ x.screens)]
def lWld (D : Ops) (u : UT) (l : List Wld) : DV := eL D 4 dWld (rWld D u) l
def oB (D : Ops) (u : UT) (l : List (UInt8)) : Obj := oL D 1 0 (rB D u) l
def oR (D : Ops) (u : UT) (l : List (Int)) : Obj := oL D 1 0 (rR D u) l
def oN (D : Ops) (u : UT) (l : List (Int)) : Obj := oL D 1 0 (rN D u) l
def oT (D : Ops) (u : UT) (l : List (Str)) : Obj := oL D 1 [] (rT D u) l
def oClu (D : Ops) (u : UT) (l : List (Clu)) : Obj := oL D 2 dClu (rClu D u) l
def oCel (D : Ops) (u : UT) (l : List (Cel)) : Obj := oL D 2 dCel (rCel D u) l
def oScr (D : Ops) (u : UT) (l : List (Scr)) : Obj := oL D 8 dScr (rScr D u) l
def oKRd (D : Ops) (u : UT) (l : List (KRd)) : Obj := oL D 2 dKRd (rKRd D u) l
def oKey (D : Ops) (u : UT) (l : List (Key)) : Obj := oL D 2 dKey (rKey D u) l
def oSnp (D : Ops) (u : UT) (l : List (Snp)) : Obj := oL D 2 dSnp (rSnp D u) l
def oLin (D : Ops) (u : UT) (l : List (Lin)) : Obj := oL D 4 dLin (rLin D u) l
def oHis (D : Ops) (u : UT) (l : List (His)) : Obj := oL D 2 dHis (rHis D u) l
def oBlk (D : Ops) (u : UT) (l : List (Blk)) : Obj := oL D 3 dBlk (rBlk D u) l
def oSes (D : Ops) (u : UT) (l : List (Ses)) : Obj := oL D 17 dSes (rSes D u) l
def oWld (D : Ops) (u : UT) (l : List (Wld)) : Obj := oL D 4 dWld (rWld D u) l
def oCluS (D : Ops) (u : UT) (l : List (List Clu)) : Obj := oL D 1 [] (rCluS D u) l
def oCelS (D : Ops) (u : UT) (l : List (List Cel)) : Obj := oL D 1 [] (rCelS D u) l
theorem qB {f : Nat → List DV} {n : Nat} {l l' : List (UInt8)} (h : LR (rB std uid) 0 f n l') (e : l' = l) : DEq (.l 1 n f) (.l 1 n (fun i => rB std uid (std.nthL (UInt8) 0 l i))) := (e ▸ h).deq2
theorem qR {f : Nat → List DV} {n : Nat} {l l' : List (Int)} (h : LR (rR std uid) 0 f n l') (e : l' = l) : DEq (.l 1 n f) (.l 1 n (fun i => rR std uid (std.nthL (Int) 0 l i))) := (e ▸ h).deq2
theorem qT {f : Nat → List DV} {n : Nat} {l l' : List (Str)} (h : LR (rT std uid) [] f n l') (e : l' = l) : DEq (.l 1 n f) (.l 1 n (fun i => rT std uid (std.nthL (Str) [] l i))) := (e ▸ h).deq2
theorem qClu {f : Nat → List DV} {n : Nat} {l l' : List (Clu)} (h : LR (rClu std uid) dClu f n l') (e : l' = l) : DEq (.l 2 n f) (.l 2 n (fun i => rClu std uid (std.nthL (Clu) dClu l i))) := (e ▸ h).deq2
theorem zB {f : Nat → List DV} : DEq (.l 0 0 f) (lB std uid []) := DEq.z _ _ _
theorem zR {f : Nat → List DV} : DEq (.l 0 0 f) (lR std uid []) := DEq.z _ _ _
theorem zN {f : Nat → List DV} : DEq (.l 0 0 f) (lN std uid []) := DEq.z _ _ _
theorem zT {f : Nat → List DV} : DEq (.l 0 0 f) (lT std uid []) := DEq.z _ _ _
theorem zClu {f : Nat → List DV} : DEq (.l 0 0 f) (lClu std uid []) := DEq.z _ _ _
theorem zCel {f : Nat → List DV} : DEq (.l 0 0 f) (lCel std uid []) := DEq.z _ _ _
theorem zScr {f : Nat → List DV} : DEq (.l 0 0 f) (lScr std uid []) := DEq.z _ _ _
theorem zKey {f : Nat → List DV} : DEq (.l 0 0 f) (lKey std uid []) := DEq.z _ _ _
theorem zSnp {f : Nat → List DV} : DEq (.l 0 0 f) (lSnp std uid []) := DEq.z _ _ _
theorem zSes {f : Nat → List DV} : DEq (.l 0 0 f) (lSes std uid []) := DEq.z _ _ _
theorem zCelS {f : Nat → List DV} : DEq (.l 0 0 f) (lCelS std uid []) := DEq.z _ _ _
end Go.AW
/- Arguments of a row, read as lists. -/
set_option linter.unusedVariables false
set_option linter.unusedSimpArgs false
namespace Go.AW
section
variable {P : Program} {t e : TypeId}
theorem rd_as' {α β : Type} {Q : α → Prop} {mk : α → List DV} {Q' : β → Prop} {mk' : β → List DV} (h : Rd P t Q mk) (f : α → β) (hq : ∀ x, Q x → Q' (f x)) (hm : ∀ x, Q x → mk' (f x) = mk x) : Rd P t Q' mk' := by
  intro H enc w fuel cs d ps hd hw
  obtain ⟨x, q, l, r⟩ := h H enc w fuel cs d ps hd hw
  exact ⟨f x, hq x q, by rw [hm x q]; exact l, fun j y hy => r j y (by rw [← hm x q]; exact hy)⟩
theorem rd_list {sz by' : Nat} (ht : P.underlying t = some (.slice e)) (hsz : P.cellsOf e = sz) (hpos : 0 < sz) (hby : P.bytesOf e = by') (hby' : 1 ≤ by') {α : Type} (dft : α) {Q : α → Prop} {mk : α → List DV} (hmk : ∀ x, (mk x).length = sz) (he : Rd P e Q mk) :
    Rd P t (fun l : List α => l.length ≤ 140737488355328 ∧ ∀ x, x ∈ l → Q x) (fun l => [eL std sz dft mk l]) := by
  intro H enc w fuel cs d ps hd hw
  haveI : Inhabited α := ⟨dft⟩
  obtain ⟨⟨n, f⟩, q, l, r⟩ := rd_slice ht hsz hpos hby hmk he H enc w fuel cs d ps hd hw
  simp only at q r l
  have hn : n ≤ 140737488355328 := by
    have : n * 1 ≤ n * by' := Nat.mul_le_mul_left n hby'
    omega
  refine ⟨(List.range n).map f, ⟨by simpa using hn, fun x hx => ?_⟩, l, fun j y hy => ?_⟩
  · obtain ⟨i, hi, rfl⟩ := List.mem_map.mp hx
    exact q.2 i (List.mem_range.mp hi)
  · cases j with
    | succ j => simp at hy
    | zero =>
      simp at hy; subst hy
      obtain ⟨u, hu, hr⟩ := r 0 _ rfl
      refine ⟨u, hu, ?_⟩
      have e1 : DEq (.l sz n fun i => mk (f i)) (.l sz n fun i => mk (((List.range n).map f).getD i dft)) := deq_rows fun i hi => by
        simp [List.getD_eq_getElem?_getD, hi]
      have := hr.deq e1
      unfold eL
      simpa [std] using this
theorem rd_str (ht : P.underlying t = some .string) : Rd P t (fun s : Str => s.length ≤ 140737488355328) (fun s => [.s (.string (std.strB s))]) :=
  rd_as' (rd_string ht) (fun s => s.data.toList) (fun s h => by
    show s.data.toList.length ≤ 140737488355328
    have : s.data.toList.length = s.size := Array.length_toList
    omega) fun s _ => by
    have : std.strB s.data.toList = s := by cases s; simp [std]
    rw [this]
theorem rd_i64' (ht : P.underlying t = some (.int .i64)) : Rd P t (fun n : Int => -9223372036854775808 ≤ n ∧ n ≤ 9223372036854775807) (fun n => [.s (.int .i64 n)]) :=
  rd_as' (rd_int ht) id (fun n h => by
    have h1 : IntKind.min .i64 = -9223372036854775808 := by decide +kernel
    have h2 : IntKind.max .i64 = 9223372036854775807 := by decide +kernel
    simp only [id]; omega) fun n _ => rfl
end
/-- A parameter that lies in one cell. -/
theorem arg_c {P : Program} {t : TypeId} {α : Type} {Q : α → Prop} {d : α → DV} (h : Rd P t Q fun x => [d x]) {H : Type} {enc : TypeId × Value → H} {W : World} {v : Value} {dd : DataW H} {ps : List MemPlace} (hv : v.cells.toList = [v])
    (h0 : ∃ fuel, DataW.trod enc P W 0 (fun _ => true) true fuel t v.cells.toList = some (dd, ps)) (hw : ∀ n ∈ dd.weights P t, n ≤ reachBytes) : ∃ x, Q x ∧ ArgT W (fun b => b < W.heap.size) (.c (d x)) v := by
  obtain ⟨fuel, hf⟩ := h0
  obtain ⟨x, q, l, r⟩ := h H enc W fuel _ _ _ hf hw
  obtain ⟨u, hu, hr⟩ := r 0 _ rfl
  rw [hv] at hu
  cases hu
  exact ⟨x, q, hr⟩
/-- A struct. -/
theorem arg_a {P : Program} {t : TypeId} {α : Type} {Q : α → Prop} {d : α → List DV} (h : Rd P t Q d) {H : Type} {enc : TypeId × Value → H} {W : World} {cs : Array Value} {dd : DataW H} {ps : List MemPlace}
    (h0 : ∃ fuel, DataW.trod enc P W 0 (fun _ => true) true fuel t (Value.cells (.agg cs)).toList = some (dd, ps)) (hw : ∀ n ∈ dd.weights P t, n ≤ reachBytes) : ∃ x, Q x ∧ ArgT W (fun b => b < W.heap.size) (.a (d x)) (.agg cs) := by
  obtain ⟨fuel, hf⟩ := h0
  obtain ⟨x, q, l, r⟩ := h H enc W fuel _ _ _ hf hw
  exact ⟨x, q, cs.toList, by simp, l, r⟩
end Go.AW
/- Tactics (development; written out in claims). -/
namespace Go.AW
theorem str_eq' {a b : ByteArray} (h : a = b) : Value.string a = Value.string b := by rw [h]
theorem str_tl (l : List UInt8) : (ByteArray.mk l.toArray).toList = l := by rw [ByteArray.toList_eq]
theorem str_sz (l : List UInt8) : (ByteArray.mk l.toArray).size = l.length := by simp [ByteArray.size]
theorem str_cat (a b : List UInt8) : ByteArray.mk a.toArray ++ ByteArray.mk b.toArray = ByteArray.mk (a ++ b).toArray := by
  have h : ∀ x y : ByteArray, x.data.toList = y.data.toList → x = y := fun x y h => by
    cases x; cases y; simp at h; congr
  apply h
  simp
theorem str_iff (a b : List UInt8) : ByteArray.mk a.toArray = ByteArray.mk b.toArray ↔ a = b := ⟨fun h => by injection h with h; simpa using h, fun h => by rw [h]⟩
theorem str_deq {e : ByteArray} {s : List UInt8} (h : e = std.strB s) : DEq (.s (.string e)) (.s (.string (std.strB s))) := h ▸ DEq.s _
theorem sr_cat {a b : ByteArray} {x y : List UInt8} (ha : a = std.strB x) (hb : b = std.strB y) : std.catS a b = std.strB (x ++ y) := by rw [ha, hb]; exact str_cat x y
theorem u8_deq {x : Int} (h : 0 ≤ x ∧ x ≤ 255) : DEq (.s (.int .u8 x)) (.s (.int .u8 (std.u8I (UInt8.ofNat x.toNat)))) := by
  have : std.u8I (UInt8.ofNat x.toNat) = x := by
    simp only [std, UInt8.toNat_ofNat']
    omega
  rw [this]
theorem sr_strF {f : Nat → List DV} {n : Nat} {l : List UInt8} (h : LR (rB std uid) 0 f n l) : std.strF n f = std.strB l := by
  obtain ⟨rfl, h⟩ := h
  have : (List.range l.length).map (fun i => unB (f i)) = l := by
    refine List.ext_getElem (by simp) fun i h1 h2 => ?_
    have h3 := h i h2
    simp only [List.getElem_map, List.getElem_range]
    rw [List.getD_eq_getElem?_getD, List.getElem?_eq_getElem h2] at h3
    simp only [rB, Option.getD_some] at h3
    generalize f i = ds at h3
    cases ds with
    | nil => exact h3.elim
    | cons c t =>
      cases t with
      | cons c2 t => exact h3.2.elim
      | nil =>
        have h4 := h3.1
        cases h4
        simp only [unB, std]
        rw [Int.toNat_natCast]
        exact UInt8.ofNat_toNat
  simp only [std]
  rw [this]
theorem u8_0 : DEq (.s (.int .u8 0)) (.s (.int .u8 (std.u8I 0))) := DEq.s _
theorem getD_mem {α : Type} (l : List α) (d : α) (k : Nat) (h : k < l.length) : l.getD k d ∈ l := by
  rw [List.getD_eq_getElem?_getD, List.getElem?_eq_getElem h]
  exact List.getElem_mem h
theorem fl1 {k : Nat} {v : Nat → Value} : std.FlatRows k (fun i => [.s (v i)]) 1 := fun i _ => ⟨rfl, fun d hd => ⟨_, List.mem_singleton.mp hd⟩⟩
theorem fl1' {k : Nat} {v : Nat → Value} : std.FlatRows k (fun j => List.map (fun c => c j) [fun i => DV.s (v i)]) 1 := fl1
theorem aLe_1 {c d : DV} (h : DEq c d) : allLe DEq [c] [d] := ⟨h, trivial⟩
theorem set_set (f : Nat → List DV) (a : Nat) (row row' : List DV) : std.setF (std.setF f a row) a row' = std.setF f a row' := by
  funext k
  simp only [std]
  split <;> rfl
theorem LR_bytes {s : List UInt8} : LR (rB std uid) 0 (fun i => [.s (.int .u8 (std.byteS (std.strB s) i))]) (std.lenS (std.strB s)) s := by
  refine ⟨by simp only [std]; exact str_sz s, fun i hi => aLe_1 ?_⟩
  exact DEq.s _
theorem take_snoc {α : Type} (a : List α) (d : α) (k : Nat) (h : k < a.length) : a.take (k + 1) = a.take k ++ [a.getD k d] := by
  rw [List.getD_eq_getElem?_getD, List.getElem?_eq_getElem h]
  exact (List.take_append_getElem h).symm
theorem set_fill {α : Type} (a : List α) (d : α) (k : Nat) (h : k < a.length) : (a.take k ++ List.replicate (a.length - k) d).set k (a.getD k d) = a.take (k + 1) ++ List.replicate (a.length - (k + 1)) d := by
  rw [show a.length - k = (a.length - (k + 1)) + 1 by omega, List.replicate_succ, List.set_append_right _ _ (by simp; omega)]
  simp only [List.length_take, Nat.min_eq_left (Nat.le_of_lt h), Nat.sub_self, List.set_cons_zero]
  rw [take_snoc a d k h, List.append_assoc]; rfl
theorem set_over {α : Type} (b a : List α) (d : α) (k : Nat) (h : k < a.length) (hb : b.length = a.length) : (b.take k ++ a.drop k).set k (b.getD k d) = b.take (k + 1) ++ a.drop (k + 1) := by
  rw [List.set_append_right _ _ (by simp; omega), take_snoc b d k (by omega), List.append_assoc, List.drop_eq_getElem_cons h]
  simp only [List.length_take, Nat.min_eq_left (show k ≤ b.length by omega), Nat.sub_self, List.set_cons_zero]
  rfl
theorem hsA {D : Ops} (hD : D = std) (f : Nat → List DV) (a : Nat) (row : List DV) : D.setF f a row a = row := by subst hD; simp [std]
theorem hsB {D : Ops} (hD : D = std) (f : Nat → List DV) (a : Nat) (row row' : List DV) : D.setF (D.setF f a row) a row' = D.setF f a row' := by subst hD; exact set_set f a row row'
/-- What a leaf is simplified by. -/
theorem S0 : (∀ n : Int, -9223372036854775808 ≤ n ∧ n ≤ 9223372036854775807 → IntKind.wrap .i64 n = n) ∧ (∀ n : Nat, (n : Int).toNat = n) ∧ (∀ n : Nat, Nat.succ n = n + 1) ∧ (∀ m n : Nat, ((m + n : Nat) : Int) = (m : Int) + n) ∧ (((1 : Nat) : Int) = 1) ∧
    (∀ (p : Prop) [Decidable p], (decide p = true) = p) ∧ (∀ (p : Prop) [Decidable p], (decide p = false) = ¬ p) ∧ (∀ a b : Int, (¬ a < b) = (b ≤ a)) ∧ (∀ a b : Int, (¬ a ≤ b) = (b < a)) ∧ (∀ a b : Nat, (¬ a < b) = (b ≤ a)) ∧ (∀ a b : Nat, (¬ a ≤ b) = (b < a)) ∧
    (∀ (α : Type) [BEq α] [LawfulBEq α] (a b : α), ((a == b) = true) = (a = b)) ∧ (∀ (α : Type) [BEq α] [LawfulBEq α] (a b : α), ((a == b) = false) = ¬ (a = b)) ∧ (∀ b : Bool, ((!b) = true) = (b = false)) ∧ (∀ b : Bool, ((!b) = false) = (b = true)) ∧ (∀ (α : Type) (a b : α), (a ≠ b) = ¬ (a = b)) ∧
    (∀ (α : Type) (a b : List α), (a ++ b).length = a.length + b.length) ∧ (∀ (α : Type) (n : Nat) (a : List α), (a.take n).length = min n a.length) ∧ (∀ (α : Type) (n : Nat) (a : List α), (a.drop n).length = a.length - n) ∧ (∀ (α : Type) (n : Nat) (a : α), (List.replicate n a).length = n) ∧
    (∀ (α : Type) (a : α) (l : List α), (a :: l).length = l.length + 1) ∧ (∀ (α : Type), ([] : List α).length = 0) ∧ (∀ (α : Type) (l : List α) (i : Nat) (a : α), (l.set i a).length = l.length) ∧ (∀ (α β : Type) (f : α → β) (l : List α), (l.map f).length = l.length) ∧
    (∀ (α : Type) (a : α), (a = a) = True) ∧ ((¬ True) = False) ∧ (∀ l : List UInt8, (ByteArray.mk l.toArray).toList = l) ∧ (∀ l : List UInt8, (ByteArray.mk l.toArray).size = l.length) ∧ (∀ a b : List UInt8, ByteArray.mk a.toArray ++ ByteArray.mk b.toArray = ByteArray.mk (a ++ b).toArray) ∧
    (∀ a b : ByteArray, (Value.string a = Value.string b) = (a = b)) ∧ (∀ (k k' : IntKind) (a b : Int), (Value.int k a = Value.int k' b) = (k = k' ∧ a = b)) ∧ (∀ a b : Bool, (Value.bool a = Value.bool b) = (a = b)) ∧ (∀ p : Prop, (True ∧ p) = p) ∧ (∀ a b : List UInt8, (ByteArray.mk a.toArray = ByteArray.mk b.toArray) = (a = b)) ∧
    (∀ a b : Int, 0 ≤ a → a.tdiv b = a / b) ∧ (∀ a b : Int, 0 ≤ a → a.tmod b = a % b) ∧ dClu = ⟨[], 0⟩ ∧ dCel = ⟨[], false⟩ ∧ dSnp = ⟨[], []⟩ ∧ dKey = ⟨0, []⟩ :=
  ⟨fun n h => wrap64 n h, fun n => Int.toNat_natCast n, fun _ => rfl, fun m n => Int.natCast_add m n, rfl, fun p _ => by simp, fun p _ => by simp, fun a b => by simp, fun a b => by simp, fun a b => by simp, fun a b => by simp,
   fun α _ _ a b => by simp, fun α _ _ a b => by simp, fun b => by simp, fun b => by simp, fun α a b => rfl, fun α a b => List.length_append, fun α n a => List.length_take, fun α n a => List.length_drop, fun α n a => List.length_replicate,
   fun α a l => rfl, fun α => rfl, fun α l i a => List.length_set, fun α β f l => List.length_map f, fun α a => by simp, by simp, str_tl, str_sz, str_cat, fun a b => by simp, fun k k' a b => by simp, fun a b => by simp, fun p => by simp, fun a b => propext (str_iff a b),
   fun a b h => Int.tdiv_eq_ediv_of_nonneg h, fun a b h => Int.tmod_eq_emod_of_nonneg h, rfl, rfl, rfl, rfl⟩
end Go.AW
/- Tactics, by lemmas whose last premise proves itself (development; the rest written out in claims). -/
namespace Go.AW
/-- An equation that simp does not see. -/
def Is {α : Type} (a b : α) : Prop := a = b
/-- A leaf that ends by itself. -/
theorem fx {P : Prop} (h : P := by first | (first | trivial | (subst hD; first | exact fun _ _ => ⟨_, rfl⟩ | exact fl1 | exact fl1') | (((try subst hD hu); (try simp only [nc] at *); (try simp only [Int.ofNat_eq_natCast] at *); try simp (disch := omega) only [std, uid, S0] at *) <;> first | omega | rfl | (exfalso; simp_all only [Bool.true_eq_false, Bool.false_eq_true]; done))) | fail) : P := h
/-- A fact of numbers. -/
theorem lo {P : Prop} (h : P := by first | (((try subst hD hu); (try simp only [nc] at *); (try simp only [Int.ofNat_eq_natCast] at *); try simp (disch := omega) only [std, uid, S0] at *); omega) | fail) : P := h
end Go.AW
/- Plain words of the laws' own functions. -/
set_option linter.unusedVariables false
set_option linter.unusedSimpArgs false
namespace Go.AW
def markL {α : Type} (mk : α → Int → α) (cnt : α → Nat) : List α → Int → List α
  | [], _ => []
  | x :: xs, k => mk x k :: markL mk cnt xs (k + cnt x)
def cntL {α : Type} (cnt : α → Nat) (l : List α) : Nat := (l.map cnt).sum
def totL {α : Type} (t : α → Nat) (l : List α) : Nat := l.length + cntL t l
def bdL {α : Type} (b : Nat → α → Prop) (N : Nat) (l : List α) : Prop := l.length ≤ N ∧ ∀ x, x ∈ l → b N x
theorem markL_len {α : Type} (mk : α → Int → α) (cnt : α → Nat) : ∀ (l : List α) (k : Int), (markL mk cnt l k).length = l.length
  | [], _ => rfl
  | x :: xs, k => by simp [markL, markL_len mk cnt xs]
theorem cntL_snoc {α : Type} (cnt : α → Nat) (l : List α) (d : α) (i : Nat) (h : i < l.length) : cntL cnt (l.take (i + 1)) = cntL cnt (l.take i) + cnt (l.getD i d) := by
  rw [take_snoc l d i h]
  simp [cntL]
theorem cntL_le {α : Type} (cnt : α → Nat) (l : List α) (i : Nat) : cntL cnt (l.take i) ≤ cntL cnt l := by
  conv => rhs; rw [← List.take_append_drop i l]
  simp only [cntL, List.map_append, List.sum_append]
  omega
theorem cntL_0 {α : Type} (cnt : α → Nat) (l : List α) : cntL cnt (l.take 0) = 0 := rfl
theorem cntL_all {α : Type} (cnt : α → Nat) (l : List α) : cntL cnt (l.take l.length) = cntL cnt l := by rw [List.take_length]
theorem cntL_tot {α : Type} {c t : α → Nat} (h : ∀ x, c x ≤ 40 * (1 + t x)) : ∀ l : List α, cntL c l ≤ 40 * totL t l
  | [] => by simp [cntL]
  | x :: l => by
    have h1 := h x
    have h2 := cntL_tot h l
    simp only [cntL, totL, List.map_cons, List.sum_cons, List.length_cons] at *
    omega
theorem le_cntL {α : Type} (cnt : α → Nat) (l : List α) (x : α) (h : x ∈ l) : cnt x ≤ cntL cnt l := by
  induction l with
  | nil => simp at h
  | cons y l ih =>
    simp only [cntL, List.map_cons, List.sum_cons] at *
    rcases List.mem_cons.mp h with rfl | h
    · omega
    · have := ih h; omega
theorem bdL_of {α : Type} {t : α → Nat} {b : Nat → α → Prop} (hb : ∀ N x, t x ≤ N → b N x) (N : Nat) (l : List α) (h : totL t l ≤ N) : bdL b N l :=
  ⟨by simp only [totL] at h; omega, fun x hx => hb N x (by have := le_cntL t l x hx; simp only [totL] at h; omega)⟩
theorem bdL_mono {α : Type} {b : Nat → α → Prop} (hb : ∀ N N' x, N ≤ N' → b N x → b N' x) (N N' : Nat) (l : List α) (hN : N ≤ N') (h : bdL b N l) : bdL b N' l :=
  ⟨Nat.le_trans h.1 hN, fun x hx => hb N N' x hN (h.2 x hx)⟩
theorem markL_get {α : Type} (mk : α → Int → α) (cnt : α → Nat) (d : α) : ∀ (l : List α) (k : Int) (i : Nat), i < l.length → (markL mk cnt l k).getD i d = mk (l.getD i d) (k + cntL cnt (l.take i))
  | [], _, i, h => by simp at h
  | x :: xs, k, 0, h => by simp [markL, cntL]
  | x :: xs, k, i + 1, h => by
    have := markL_get mk cnt d xs (k + cnt x) i (by simpa using h)
    simp only [markL, List.getD_cons_succ, this, List.take_succ_cons, cntL, List.map_cons, List.sum_cons]
    congr 1
    omega
theorem over_get {α : Type} (b a : List α) (d : α) (k : Nat) (h : k < a.length) (hb : b.length = a.length) : (b.take k ++ a.drop k).getD k d = a.getD k d := by
  rw [List.getD_eq_getElem?_getD, List.getElem?_append_right (by simp; omega), List.getElem?_drop]
  simp [Nat.min_eq_left (show k ≤ b.length by omega)]
theorem over_all {α : Type} (b a : List α) (hb : b.length = a.length) : b.take a.length ++ a.drop a.length = b := by rw [List.drop_eq_nil_of_le (Nat.le_refl _), List.append_nil, ← hb, List.take_length]
theorem fill_all {α : Type} (a : List α) (d : α) : a.take a.length ++ List.replicate (a.length - a.length) d = a := by simp
theorem fill_0 {α : Type} (a : List α) (d : α) : List.replicate a.length d = a.take 0 ++ List.replicate (a.length - 0) d := by simp
def mkR (a : List Int) (k : Int) : List Int := (List.range a.length).map fun (i : Nat) => IntKind.wrap .i32 (k + i)
theorem mkR_len (a : List Int) (k : Int) : (mkR a k).length = a.length := by simp [mkR]
def mkN (a : List Int) (k : Int) : List Int := (List.range a.length).map fun (i : Nat) => k + i
theorem mkN_len (a : List Int) (k : Int) : (mkN a k).length = a.length := by simp [mkN]
def mkB (a : Str) (k : Int) : Str := (List.range a.length).map fun (i : Nat) => UInt8.ofNat (IntKind.wrap .u8 (k + i)).toNat
theorem mkB_len (a : Str) (k : Int) : (mkB a k).length = a.length := by simp [mkB]
theorem wu8 (n : Int) : IntKind.wrap .u8 n = n % 256 := by simp [IntKind.wrap, IntKind.bits, IntKind.signed]
/-- The decimal text of a number above 0, least digit last. -/
def decT (fuel : Nat) (k : Int) (out : Str) : Str :=
  match fuel with
  | 0 => out
  | f + 1 => if k > 0 then decT f (k / 10) (UInt8.ofNat (48 + k % 10).toNat :: out) else out
def mtxt (k : Int) : Str := if k ≤ 0 then [109, 48] else 109 :: decT k.toNat k []
theorem decT_fuel : ∀ (f f' : Nat) (k : Int) (out : Str), k.toNat ≤ f → k.toNat ≤ f' → decT f k out = decT f' k out
  | 0, 0, _, _, _, _ => rfl
  | 0, f' + 1, k, out, h, _ => by rw [decT, decT, if_neg (by omega)]
  | f + 1, 0, k, out, _, h => by rw [decT, decT, if_neg (by omega)]
  | f + 1, f' + 1, k, out, h, h' => by
    rw [decT, decT]
    split
    · exact decT_fuel f f' _ _ (by omega) (by omega)
    · rfl
theorem decT_step (k : Int) (out : Str) (h : 0 < k) : decT k.toNat k out = decT (k / 10).toNat (k / 10) (UInt8.ofNat (48 + k % 10).toNat :: out) := by
  obtain ⟨f, hf⟩ : ∃ f, k.toNat = f + 1 := ⟨k.toNat - 1, by omega⟩
  rw [hf, decT, if_pos h]
  exact decT_fuel _ _ _ _ (by omega) (Nat.le_refl _)
structure MtI (k : Int) (s : Int × Str) : Prop where
  h1 : 0 ≤ s.1
  h2 : s.1 ≤ k
  h3 : s.2.length + s.1.toNat ≤ k.toNat
  h4 : decT s.1.toNat s.1 s.2 = decT k.toNat k []
def mkET (_ : Str) (k : Int) : Str := mtxt k
def cnET (_ : Str) : Nat := 1
def toET (s : Str) : Nat := s.length
def bdET (N : Nat) (s : Str) : Prop := s.length ≤ N
theorem boET (N : Nat) (x : Str) (h : toET x ≤ N) : bdET N x := h
theorem ccET (x : Str) : cnET x ≤ 40 * (1 + toET x) := by simp only [cnET]; omega
theorem ccLT (l : List Str) : cntL cnET l ≤ 40 * totL toET l := cntL_tot ccET l
theorem bmET (N N' : Nat) (x : Str) (hN : N ≤ N') (h : bdET N x) : bdET N' x := Nat.le_trans h hN
def okR (r : Int) : Prop := -2147483648 ≤ r ∧ r ≤ 2147483647
def okI (r : Int) : Prop := -9223372036854775808 ≤ r ∧ r ≤ 9223372036854775807
def mkEClu (x : Clu) (k : Int) : Clu := ⟨mkR x.runes (k), k + (x.runes.length : Nat)⟩
def cnEClu (x : Clu) : Nat := x.runes.length + 1
def toEClu (x : Clu) : Nat := x.runes.length
def bdEClu (N : Nat) (x : Clu) : Prop := x.runes.length ≤ N
def mvClu (x : Clu) (k : Int) : Clu := ⟨mkR x.runes (k), x.width⟩
def cvClu (x : Clu) : Nat := x.runes.length
def okClu (x : Clu) : Prop := (∀ r, r ∈ x.runes → okR r) ∧ okI x.width
def mkECluS (x : List Clu) (k : Int) : List Clu := markL mkEClu cnEClu x k
def cnECluS (x : List Clu) : Nat := cntL cnEClu x
def toECluS (x : List Clu) : Nat := totL toEClu x
def bdECluS (N : Nat) (x : List Clu) : Prop := bdL bdEClu N x
def mkECel (x : Cel) (k : Int) : Cel := ⟨mtxt (k), ((k + 1) % 3 == 0)⟩
def cnECel (x : Cel) : Nat := 1 + 1
def toECel (x : Cel) : Nat := x.text.length
def bdECel (N : Nat) (x : Cel) : Prop := x.text.length ≤ N
def mvCel (x : Cel) (k : Int) : Cel := ⟨x.text, x.half⟩
def cvCel (x : Cel) : Nat := 0
def okCel (x : Cel) : Prop := True
def mkECelS (x : List Cel) (k : Int) : List Cel := markL mkECel cnECel x k
def cnECelS (x : List Cel) : Nat := cntL cnECel x
def toECelS (x : List Cel) : Nat := totL toECel x
def bdECelS (N : Nat) (x : List Cel) : Prop := bdL bdECel N x
def mkEScr (x : Scr) (k : Int) : Scr := ⟨k, k + 1, markL mkECelS cnECelS x.grid (k + 1 + 1), k + 1 + 1 + (cntL cnECelS x.grid : Nat), k + 1 + 1 + (cntL cnECelS x.grid : Nat) + 1, ((k + 1 + 1 + (cntL cnECelS x.grid : Nat) + 1 + 1) % 3 == 0), mkB x.hold (k + 1 + 1 + (cntL cnECelS x.grid : Nat) + 1 + 1 + 1), markL mkET cnET x.back (k + 1 + 1 + (cntL cnECelS x.grid : Nat) + 1 + 1 + 1 + (x.hold.length : Nat))⟩
def cnEScr (x : Scr) : Nat := 1 + 1 + cntL cnECelS x.grid + 1 + 1 + 1 + x.hold.length + cntL cnET x.back
def toEScr (x : Scr) : Nat := totL toECelS x.grid + x.hold.length + totL toET x.back
def bdEScr (N : Nat) (x : Scr) : Prop := bdL bdECelS N x.grid ∧ x.hold.length ≤ N ∧ bdL bdET N x.back
def mvScr (x : Scr) (k : Int) : Scr := ⟨x.cols, x.rows, markL mkECelS cnECelS x.grid (k), x.row, x.col, x.late, mkB x.hold (k + (cntL cnECelS x.grid : Nat)), markL mkET cnET x.back (k + (cntL cnECelS x.grid : Nat) + (x.hold.length : Nat))⟩
def cvScr (x : Scr) : Nat := cntL cnECelS x.grid + x.hold.length + cntL cnET x.back
def okScr (x : Scr) : Prop := okI x.cols ∧ okI x.rows ∧ okI x.row ∧ okI x.col
def mkEKRd (x : KRd) (k : Int) : KRd := ⟨mkB x.hold (k), ((k + (x.hold.length : Nat)) % 3 == 0)⟩
def cnEKRd (x : KRd) : Nat := x.hold.length + 1
def toEKRd (x : KRd) : Nat := x.hold.length
def bdEKRd (N : Nat) (x : KRd) : Prop := x.hold.length ≤ N
def mvKRd (x : KRd) (k : Int) : KRd := ⟨mkB x.hold (k), x.paste⟩
def cvKRd (x : KRd) : Nat := x.hold.length
def okKRd (x : KRd) : Prop := True
def mkEKey (x : Key) (k : Int) : Key := ⟨k, mkR x.runes (k + 1)⟩
def cnEKey (x : Key) : Nat := 1 + x.runes.length
def toEKey (x : Key) : Nat := x.runes.length
def bdEKey (N : Nat) (x : Key) : Prop := x.runes.length ≤ N
def mvKey (x : Key) (k : Int) : Key := ⟨x.kind, mkR x.runes (k)⟩
def cvKey (x : Key) : Nat := x.runes.length
def okKey (x : Key) : Prop := okI x.kind ∧ (∀ r, r ∈ x.runes → okR r)
def mkESnp (x : Snp) (k : Int) : Snp := ⟨mtxt (k), mtxt (k + 1)⟩
def cnESnp (x : Snp) : Nat := 1 + 1
def toESnp (x : Snp) : Nat := x.left.length + x.right.length
def bdESnp (N : Nat) (x : Snp) : Prop := x.left.length ≤ N ∧ x.right.length ≤ N
def mvSnp (x : Snp) (k : Int) : Snp := ⟨x.left, x.right⟩
def cvSnp (x : Snp) : Nat := 0
def okSnp (x : Snp) : Prop := True
def mkELin (x : Lin) (k : Int) : Lin := ⟨mtxt (k), mtxt (k + 1), mtxt (k + 1 + 1), markL mkESnp cnESnp x.undo (k + 1 + 1 + 1)⟩
def cnELin (x : Lin) : Nat := 1 + 1 + 1 + cntL cnESnp x.undo
def toELin (x : Lin) : Nat := x.left.length + x.right.length + x.kill.length + totL toESnp x.undo
def bdELin (N : Nat) (x : Lin) : Prop := x.left.length ≤ N ∧ x.right.length ≤ N ∧ x.kill.length ≤ N ∧ bdL bdESnp N x.undo
def mvLin (x : Lin) (k : Int) : Lin := ⟨x.left, x.right, x.kill, markL mkESnp cnESnp x.undo (k)⟩
def cvLin (x : Lin) : Nat := cntL cnESnp x.undo
def okLin (x : Lin) : Prop := (∀ y, y ∈ x.undo → okSnp y)
def mkEHis (x : His) (k : Int) : His := ⟨k, markL mkET cnET x.items (k + 1)⟩
def cnEHis (x : His) : Nat := 1 + cntL cnET x.items
def toEHis (x : His) : Nat := totL toET x.items
def bdEHis (N : Nat) (x : His) : Prop := bdL bdET N x.items
theorem boEHis (N : Nat) (x : His) (h : toEHis x ≤ N) : bdEHis N x := (bdL_of boET _ _ (by simp only [toEHis] at h; omega))
theorem bmEHis (N N' : Nat) (x : His) (hN : N ≤ N') (h : bdEHis N x) : bdEHis N' x := (bdL_mono bmET _ _ _ hN (h))
def mvHis (x : His) (k : Int) : His := ⟨x.cap, markL mkET cnET x.items (k)⟩
def cvHis (x : His) : Nat := cntL cnET x.items
def okHis (x : His) : Prop := okI x.cap
theorem ccVHis (x : His) : cvHis x ≤ 40 * toEHis x := by
  have := ccLT x.items
  simp only [cvHis, toEHis] at *
  omega
def mkEBlk (x : Blk) (k : Int) : Blk := ⟨markL mkET cnET x.rows (k), k + (cntL cnET x.rows : Nat), k + (cntL cnET x.rows : Nat) + 1⟩
def cnEBlk (x : Blk) : Nat := cntL cnET x.rows + 1 + 1
def toEBlk (x : Blk) : Nat := totL toET x.rows
def bdEBlk (N : Nat) (x : Blk) : Prop := bdL bdET N x.rows
def mvBlk (x : Blk) (k : Int) : Blk := ⟨markL mkET cnET x.rows (k), x.row, x.col⟩
def cvBlk (x : Blk) : Nat := cntL cnET x.rows
def okBlk (x : Blk) : Prop := okI x.row ∧ okI x.col
def mkESes (x : Ses) (k : Int) : Ses := ⟨mtxt (k), k + 1, k + 1 + 1, ⟨mtxt (k + 1 + 1 + 1), mtxt (k + 1 + 1 + 1 + 1), mtxt (k + 1 + 1 + 1 + 1 + 1), markL mkESnp cnESnp x.line.undo (k + 1 + 1 + 1 + 1 + 1 + 1)⟩, ⟨mkB x.keys.hold (k + 1 + 1 + 1 + 1 + 1 + 1 + (cntL cnESnp x.line.undo : Nat)), ((k + 1 + 1 + 1 + 1 + 1 + 1 + (cntL cnESnp x.line.undo : Nat) + (x.keys.hold.length : Nat)) % 3 == 0)⟩, ((k + 1 + 1 + 1 + 1 + 1 + 1 + (cntL cnESnp x.line.undo : Nat) + (x.keys.hold.length : Nat) + 1) % 3 == 0), markL mkET cnET x.past (k + 1 + 1 + 1 + 1 + 1 + 1 + (cntL cnESnp x.line.undo : Nat) + (x.keys.hold.length : Nat) + 1 + 1), k + 1 + 1 + 1 + 1 + 1 + 1 + (cntL cnESnp x.line.undo : Nat) + (x.keys.hold.length : Nat) + 1 + 1 + (cntL cnET x.past : Nat), mtxt (k + 1 + 1 + 1 + 1 + 1 + 1 + (cntL cnESnp x.line.undo : Nat) + (x.keys.hold.length : Nat) + 1 + 1 + (cntL cnET x.past : Nat) + 1), ((k + 1 + 1 + 1 + 1 + 1 + 1 + (cntL cnESnp x.line.undo : Nat) + (x.keys.hold.length : Nat) + 1 + 1 + (cntL cnET x.past : Nat) + 1 + 1) % 3 == 0), markL mkET cnET x.queue (k + 1 + 1 + 1 + 1 + 1 + 1 + (cntL cnESnp x.line.undo : Nat) + (x.keys.hold.length : Nat) + 1 + 1 + (cntL cnET x.past : Nat) + 1 + 1 + 1), markL mkET cnET x.log (k + 1 + 1 + 1 + 1 + 1 + 1 + (cntL cnESnp x.line.undo : Nat) + (x.keys.hold.length : Nat) + 1 + 1 + (cntL cnET x.past : Nat) + 1 + 1 + 1 + (cntL cnET x.queue : Nat)), markL mkET cnET x.done (k + 1 + 1 + 1 + 1 + 1 + 1 + (cntL cnESnp x.line.undo : Nat) + (x.keys.hold.length : Nat) + 1 + 1 + (cntL cnET x.past : Nat) + 1 + 1 + 1 + (cntL cnET x.queue : Nat) + (cntL cnET x.log : Nat))⟩
def cnESes (x : Ses) : Nat := 1 + 1 + 1 + 1 + 1 + 1 + cntL cnESnp x.line.undo + x.keys.hold.length + 1 + 1 + cntL cnET x.past + 1 + 1 + 1 + cntL cnET x.queue + cntL cnET x.log + cntL cnET x.done
def toESes (x : Ses) : Nat := x.prompt.length + x.line.left.length + x.line.right.length + x.line.kill.length + totL toESnp x.line.undo + x.keys.hold.length + totL toET x.past + x.draft.length + totL toET x.queue + totL toET x.log + totL toET x.done
def bdESes (N : Nat) (x : Ses) : Prop := x.prompt.length ≤ N ∧ x.line.left.length ≤ N ∧ x.line.right.length ≤ N ∧ x.line.kill.length ≤ N ∧ bdL bdESnp N x.line.undo ∧ x.keys.hold.length ≤ N ∧ bdL bdET N x.past ∧ x.draft.length ≤ N ∧ bdL bdET N x.queue ∧ bdL bdET N x.log ∧ bdL bdET N x.done
def mvSes (x : Ses) (k : Int) : Ses := ⟨x.prompt, x.cols, x.rows, mvLin x.line (k), mvKRd x.keys (k + (cvLin x.line : Nat)), x.nav, markL mkET cnET x.past (k + (cvLin x.line : Nat) + (cvKRd x.keys : Nat)), x.at_, x.draft, x.stopped, markL mkET cnET x.queue (k + (cvLin x.line : Nat) + (cvKRd x.keys : Nat) + (cntL cnET x.past : Nat)), markL mkET cnET x.log (k + (cvLin x.line : Nat) + (cvKRd x.keys : Nat) + (cntL cnET x.past : Nat) + (cntL cnET x.queue : Nat)), markL mkET cnET x.done (k + (cvLin x.line : Nat) + (cvKRd x.keys : Nat) + (cntL cnET x.past : Nat) + (cntL cnET x.queue : Nat) + (cntL cnET x.log : Nat))⟩
def cvSes (x : Ses) : Nat := cvLin x.line + cvKRd x.keys + cntL cnET x.past + cntL cnET x.queue + cntL cnET x.log + cntL cnET x.done
def okSes (x : Ses) : Prop := okI x.cols ∧ okI x.rows ∧ okLin x.line ∧ okKRd x.keys ∧ okI x.at_
def mkEWld (x : Wld) (k : Int) : Wld := ⟨⟨k, markL mkET cnET x.hist.items (k + 1)⟩, markL mkESes cnESes x.sessions (k + 1 + (cntL cnET x.hist.items : Nat)), markL mkEScr cnEScr x.screens (k + 1 + (cntL cnET x.hist.items : Nat) + (cntL cnESes x.sessions : Nat))⟩
def cnEWld (x : Wld) : Nat := 1 + cntL cnET x.hist.items + cntL cnESes x.sessions + cntL cnEScr x.screens
def toEWld (x : Wld) : Nat := totL toET x.hist.items + totL toESes x.sessions + totL toEScr x.screens
def bdEWld (N : Nat) (x : Wld) : Prop := bdL bdET N x.hist.items ∧ bdL bdESes N x.sessions ∧ bdL bdEScr N x.screens
def mvWld (x : Wld) (k : Int) : Wld := ⟨mvHis x.hist (k), markL mkESes cnESes x.sessions (k + (cvHis x.hist : Nat)), markL mkEScr cnEScr x.screens (k + (cvHis x.hist : Nat) + (cntL cnESes x.sessions : Nat))⟩
def cvWld (x : Wld) : Nat := cvHis x.hist + cntL cnESes x.sessions + cntL cnEScr x.screens
def okWld (x : Wld) : Prop := okHis x.hist ∧ (∀ y, y ∈ x.sessions → okSes y) ∧ (∀ y, y ∈ x.screens → okScr y)
end Go.AW
/- The argument types of the laws, read as lists. -/
set_option linter.unusedVariables false
namespace Go.AW
open Go.Proofs
set_option maxRecDepth 100000
theorem rd_i : Rd Try.prog 3 okI (fun n => [.s (.int .i64 n)]) := rd_i64' Try.underlying3
theorem rd_t : Rd Try.prog 9 (fun s : Str => s.length ≤ 140737488355328) (fun s => [.s (.string (std.strB s))]) := rd_str Try.underlying9
theorem rdLT : Rd Try.prog 35 (fun l : List (Str) => l.length ≤ 140737488355328 ∧ ∀ x, x ∈ l → x.length ≤ 140737488355328) (fun l => [lT std uid l]) := rd_list (sz := 1) (by' := 16) Try.underlying35 (by kernel_rfl) (by decide) (by kernel_rfl) (by decide) ([] : Str) (mk := rT std uid) (fun _ => rfl) rd_t
theorem rdHis : Rd Try.prog 56 (fun x : His => bdEHis 140737488355328 x ∧ okHis x) (rHis std uid) :=
  rd_as (rd_struct (tot := 2) Try.underlying56 (by kernel_rfl) (rdF_cons (c := 1) rfl (by kernel_rfl) (by decide) rd_i (rdF_cons (c := 1) rfl (by kernel_rfl) (by decide) rdLT rdF_nil))) (fun x => ⟨x.1, x.2.1⟩) (fun x h => ⟨h.2.1, h.1⟩) fun _ => rfl
end Go.AW
/- Plain words: bytes, runes, clusters as lists; how they lie in rows. -/
set_option linter.unusedVariables false
set_option linter.unusedSimpArgs false
namespace Go.AW

/-! ### Lists in rows -/
def IsB (l : List UInt8) (n : Nat) (B : Nat → Int) : Prop := n = l.length ∧ ∀ i, i < n → B i = ((l.getD i 0).toNat : Int)
def IsI (l : List Int) (n : Nat) (g : Nat → Int) : Prop := n = l.length ∧ ∀ i, i < n → g i = l.getD i 0
def IsS (l : List ByteArray) (n : Nat) (g : Nat → ByteArray) : Prop := n = l.length ∧ ∀ i, i < n → g i = l.getD i ByteArray.empty
theorem IsB.uniq {l : List UInt8} {n n' : Nat} {B B' : Nat → Int} (h : IsB l n B) (h' : IsB l n' B') : n = n' ∧ ∀ i, i < n → B i = B' i := by
  have e : n = n' := by rw [h.1, h'.1]
  exact ⟨e, fun i hi => by rw [h.2 i hi, h'.2 i (e ▸ hi)]⟩
theorem IsI.uniq {l : List Int} {n n' : Nat} {B B' : Nat → Int} (h : IsI l n B) (h' : IsI l n' B') : n = n' ∧ ∀ i, i < n → B i = B' i := by
  have e : n = n' := by rw [h.1, h'.1]
  exact ⟨e, fun i hi => by rw [h.2 i hi, h'.2 i (e ▸ hi)]⟩
theorem IsS.uniq {l : List ByteArray} {n n' : Nat} {B B' : Nat → ByteArray} (h : IsS l n B) (h' : IsS l n' B') : n = n' ∧ ∀ i, i < n → B i = B' i := by
  have e : n = n' := by rw [h.1, h'.1]
  exact ⟨e, fun i hi => by rw [h.2 i hi, h'.2 i (e ▸ hi)]⟩
theorem IsB.deq {l : List UInt8} {n n' : Nat} {B B' : Nat → Int} (h : IsB l n B) (h' : IsB l n' B') : n = n' ∧ DEq (dI .u8 n B) (dI .u8 n' B') := by
  obtain ⟨rfl, h2⟩ := h.uniq h'
  exact ⟨rfl, deq_I h2⟩
theorem IsI.deq {k : IntKind} {l : List Int} {n n' : Nat} {B B' : Nat → Int} (h : IsI l n B) (h' : IsI l n' B') : n = n' ∧ DEq (dI k n B) (dI k n' B') := by
  obtain ⟨rfl, h2⟩ := h.uniq h'
  exact ⟨rfl, deq_I h2⟩
theorem IsS.deq {l : List ByteArray} {n n' : Nat} {B B' : Nat → ByteArray} (h : IsS l n B) (h' : IsS l n' B') : n = n' ∧ DEq (dS n B) (dS n' B') := by
  obtain ⟨rfl, h2⟩ := h.uniq h'
  exact ⟨rfl, deq_S h2⟩
theorem IsB.range {l : List UInt8} {n : Nat} {B : Nat → Int} (h : IsB l n B) (i : Nat) (hi : i < n) : 0 ≤ B i ∧ B i ≤ 255 := by
  rw [h.2 i hi]
  have := (l.getD i 0).toNat_lt
  omega
theorem str_ext {s t : ByteArray} (h : s.data.toList = t.data.toList) : s = t := by
  cases s; cases t
  simp at h
  congr
theorem str_eq {a b : ByteArray} (h : a = b) : Value.string a = Value.string b := by rw [h]

/-! ### Numbers -/
theorem wU8 (n : Int) : IntKind.wrap .u8 n = n % 256 := by simp [IntKind.wrap, IntKind.bits, IntKind.signed]
theorem wU32 (n : Int) : IntKind.wrap .u32 n = n % 4294967296 := by simp [IntKind.wrap, IntKind.bits, IntKind.signed]
theorem wrapI32 (n : Int) (h : -2147483648 ≤ n ∧ n ≤ 2147483647) : IntKind.wrap .i32 n = n := by
  have : IntKind.wrap .i32 n = if 2147483648 ≤ n % 4294967296 then n % 4294967296 - 4294967296 else n % 4294967296 := by simp [IntKind.wrap, IntKind.bits, IntKind.signed]
  split at this <;> omega
theorem shr_pos (k : IntKind) (a : Int) (b : Nat) (h : b ≤ k.bits) : std.shrI k a (b : Int) = a / 2 ^ b := by
  simp only [std, Int.toNat_natCast, Nat.min_eq_left h]
  rw [Int.fdiv_eq_ediv_of_nonneg]
  exact Int.pow_nonneg (by omega)
theorem and63 (x : Int) (h : 0 ≤ x ∧ x ≤ 255) : std.bitI .and .u8 x 63 = x % 64 := by
  have : ∀ y : Fin 256, std.bitI .and .u8 (y.val : Int) 63 = (y.val : Int) % 64 := by decide +kernel
  have := this ⟨x.toNat, by omega⟩
  simpa [Int.toNat_of_nonneg h.1] using this
theorem or128 (x : Int) (h : 0 ≤ x ∧ x ≤ 63) : std.bitI .or .u8 128 x = 128 + x := by
  have : ∀ y : Fin 64, std.bitI .or .u8 128 (y.val : Int) = 128 + (y.val : Int) := by decide +kernel
  have := this ⟨x.toNat, by omega⟩
  simpa [Int.toNat_of_nonneg h.1] using this
theorem or192 (x : Int) (h : 0 ≤ x ∧ x ≤ 31) : std.bitI .or .u8 192 x = 192 + x := by
  have : ∀ y : Fin 32, std.bitI .or .u8 192 (y.val : Int) = 192 + (y.val : Int) := by decide +kernel
  have := this ⟨x.toNat, by omega⟩
  simpa [Int.toNat_of_nonneg h.1] using this
theorem or224 (x : Int) (h : 0 ≤ x ∧ x ≤ 15) : std.bitI .or .u8 224 x = 224 + x := by
  have : ∀ y : Fin 16, std.bitI .or .u8 224 (y.val : Int) = 224 + (y.val : Int) := by decide +kernel
  have := this ⟨x.toNat, by omega⟩
  simpa [Int.toNat_of_nonneg h.1] using this
theorem or240 (x : Int) (h : 0 ≤ x ∧ x ≤ 7) : std.bitI .or .u8 240 x = 240 + x := by
  have : ∀ y : Fin 8, std.bitI .or .u8 240 (y.val : Int) = 240 + (y.val : Int) := by decide +kernel
  have := this ⟨x.toNat, by omega⟩
  simpa [Int.toNat_of_nonneg h.1] using this
theorem quo64 (a b : Int) (ha : 0 ≤ a ∧ a ≤ 9223372036854775807) (hb : 1 ≤ b) : std.quoI .i64 a b = a / b := by
  simp only [std, catR]
  rw [Int.tdiv_eq_ediv_of_nonneg ha.1, wrap64]
  have h1 := Int.ediv_nonneg ha.1 (show 0 ≤ b by omega)
  have h2 := Int.ediv_le_self b ha.1
  omega
theorem rem64 (a b : Int) (ha : 0 ≤ a) : std.remI a b = a % b := by
  simp only [std, catR]
  exact Int.tmod_eq_emod_of_nonneg ha

/-! ### UTF-8 -/
def validR (r : Int) : Bool := decide (0 ≤ r) && decide (r ≤ 1114111) && !(decide (55296 ≤ r) && decide (r ≤ 57343))
theorem valid_eq (r : Int) : Utf8.valid r = validR r := by
  unfold Utf8.valid validR
  rw [Bool.eq_iff_iff]
  simp
  omega
/-- The bytes of a rune (U+FFFD for none). -/
def enc (r : Int) : List UInt8 := (Utf8.encode r).data.toList
def b8 (n : Int) : UInt8 := UInt8.ofNat n.toNat
theorem enc_invalid {r : Int} (h : validR r = false) : enc r = [239, 191, 189] := by
  unfold enc Utf8.encode
  rw [valid_eq, h]
  simp only [Bool.false_eq_true, if_false]
  decide
theorem enc_1 {r : Int} (h : 0 ≤ r ∧ r < 128) : enc r = [b8 r] := by
  have hv : validR r = true := by unfold validR; simp; omega
  unfold enc Utf8.encode
  rw [valid_eq, hv]
  simp only [if_true]
  rw [if_pos (by omega)]
  rfl
theorem enc_2 {r : Int} (h : 128 ≤ r ∧ r < 2048) : enc r = [b8 (192 + r / 64), b8 (128 + r % 64)] := by
  have hv : validR r = true := by unfold validR; simp; omega
  unfold enc Utf8.encode
  rw [valid_eq, hv]
  simp only [if_true]
  rw [if_neg (by omega), if_pos (by omega)]
  simp only [b8, List.cons.injEq, and_true]
  refine ⟨congrArg UInt8.ofNat ?_, congrArg UInt8.ofNat ?_⟩ <;> omega
theorem enc_3 {r : Int} (hv : validR r = true) (h : 2048 ≤ r ∧ r < 65536) : enc r = [b8 (224 + r / 4096), b8 (128 + r / 64 % 64), b8 (128 + r % 64)] := by
  unfold enc Utf8.encode
  rw [valid_eq, hv]
  simp only [if_true]
  rw [if_neg (by omega), if_neg (by omega), if_pos (by omega)]
  simp only [b8, List.cons.injEq, and_true]
  refine ⟨congrArg UInt8.ofNat ?_, congrArg UInt8.ofNat ?_, congrArg UInt8.ofNat ?_⟩ <;> omega
theorem enc_4 {r : Int} (hv : validR r = true) (h : 65536 ≤ r) : enc r = [b8 (240 + r / 262144), b8 (128 + r / 4096 % 64), b8 (128 + r / 64 % 64), b8 (128 + r % 64)] := by
  unfold enc Utf8.encode
  rw [valid_eq, hv]
  simp only [if_true]
  rw [if_neg (by omega), if_neg (by omega), if_neg (by omega)]
  simp only [b8, List.cons.injEq, and_true]
  refine ⟨congrArg UInt8.ofNat ?_, congrArg UInt8.ofNat ?_, congrArg UInt8.ofNat ?_, congrArg UInt8.ofNat ?_⟩ <;> omega
theorem enc_len (r : Int) : (enc r).length ≤ 4 ∧ 1 ≤ (enc r).length := by
  cases hv : validR r with
  | false => rw [enc_invalid hv]; simp
  | true =>
    have : 0 ≤ r := by unfold validR at hv; simp at hv; omega
    rcases Int.lt_or_le r 128 with h | h
    · rw [enc_1 ⟨this, h⟩]; simp
    rcases Int.lt_or_le r 2048 with h2 | h2
    · rw [enc_2 ⟨h, h2⟩]; simp
    rcases Int.lt_or_le r 65536 with h3 | h3
    · rw [enc_3 hv ⟨h2, h3⟩]; simp
    · rw [enc_4 hv h3]; simp
theorem b8_toNat (n : Int) (h : 0 ≤ n ∧ n ≤ 255) : ((b8 n).toNat : Int) = n := by
  unfold b8
  have : (UInt8.ofNat n.toNat).toNat = n.toNat % 256 := by simp
  omega
theorem validR_of {r : Int} (h : 0 ≤ r ∧ r ≤ 1114111 ∧ (r < 55296 ∨ 57343 < r)) : validR r = true := by
  unfold validR; simp; omega
theorem validR_not {r : Int} (h : r < 0 ∨ 1114111 < r ∨ (55296 ≤ r ∧ r ≤ 57343)) : validR r = false := by
  unfold validR
  rw [Bool.eq_false_iff]
  simp
  omega
theorem shr6 (k : IntKind) (hk : 32 ≤ k.bits) (r : Int) : std.shrI k r 6 = r / 64 := shr_pos k r 6 (by omega)
theorem shr12 (k : IntKind) (hk : 32 ≤ k.bits) (r : Int) : std.shrI k r 12 = r / 4096 := shr_pos k r 12 (by omega)
theorem shr18 (k : IntKind) (hk : 32 ≤ k.bits) (r : Int) : std.shrI k r 18 = r / 262144 := shr_pos k r 18 (by omega)
theorem std_wrap (k : IntKind) (n : Int) : std.wrapI k n = k.wrap n := rfl
theorem tail8 (x : Int) : ((b8 (128 + x % 64)).toNat : Int) = std.bitI .or .u8 128 (std.bitI .and .u8 (std.wrapI .u8 x) 63) := by
  rw [b8_toNat _ (by omega), std_wrap, wU8, and63 _ (by omega), or128 _ (by omega)]
  omega
theorem lead2 (x : Int) (h : 0 ≤ x ∧ x ≤ 31) : ((b8 (192 + x)).toNat : Int) = std.bitI .or .u8 192 (std.wrapI .u8 x) := by
  rw [b8_toNat _ (by omega), std_wrap, wrapU8 _ (by omega), or192 _ h]
theorem lead3 (x : Int) (h : 0 ≤ x ∧ x ≤ 15) : ((b8 (224 + x)).toNat : Int) = std.bitI .or .u8 224 (std.wrapI .u8 x) := by
  rw [b8_toNat _ (by omega), std_wrap, wrapU8 _ (by omega), or224 _ h]
theorem lead4 (x : Int) (h : 0 ≤ x ∧ x ≤ 7) : ((b8 (240 + x)).toNat : Int) = std.bitI .or .u8 240 (std.wrapI .u8 x) := by
  rw [b8_toNat _ (by omega), std_wrap, wrapU8 _ (by omega), or240 _ h]
theorem bits32 : 32 ≤ IntKind.bits .i32 := by decide
theorem allLe_ro : ∀ l : List DV, allLe dvRo l l
  | [] => trivial
  | .s _ :: l => ⟨rfl, allLe_ro l⟩
  | .l _ _ _ :: l => ⟨⟨rfl, DEq.rfl' _⟩, allLe_ro l⟩
  | .x :: l => ⟨trivial, allLe_ro l⟩
end Go.AW
/- Widths of runes: what the functions compute. -/
set_option linter.unusedVariables false
set_option linter.unusedSimpArgs false
namespace Go.AW
open Go.Proofs
set_option maxRecDepth 100000
def l1In (x : Int) (f : Nat → Int) (n : Nat) : Bool := (List.range (n / 2)).any fun i => decide (f (2 * i) ≤ x) && decide (x ≤ f (2 * i + 1))
theorem con_l1In (z n : Nat) (f : Nat → Int) (x : Int) (b : Bool) (hn : n ≤ 1000) (hb : b = l1In x f n) : PRet Try.prog 160 [AI x, .r (.c (.l z n (fun i => [.s (.int .i64 (f i))])))] [RB b] [] := by
  refine pret_of_awp (fn := Try.f160) (c := bodyOf Try.f160) envOk (by kernel_rfl) (by kernel_rfl) (by kernel_rfl) (by kernel_rfl) rfl (by kernel_rfl) (by kernel_rfl) ?_
  intro w0 mine D C L hD hC hL
  obtain ⟨I, hI⟩ : ∃ I : Nat → Int, ∀ k, I k = 2 * (k : Int) := ⟨_, fun _ => rfl⟩
  have ht : ∀ k, 2 * k + 1 < n → f (2 * k) ≤ x → x ≤ f (2 * k + 1) → b = true := fun k h1 h2 h3 => by
    rw [hb]
    simp only [l1In, List.any_eq_true, List.mem_range, Bool.and_eq_true, decide_eq_true_eq]
    exact ⟨k, by omega, h2, h3⟩
  have hf : ∀ k, n ≤ 2 * k + 1 → (∀ i, i < k → ¬ (f (2 * i) ≤ x ∧ x ≤ f (2 * i + 1))) → b = false := fun k h1 h2 => by
    rw [hb]
    simp only [l1In, List.any_eq_false, List.mem_range, Bool.and_eq_true, decide_eq_true_eq]
    exact fun i' hi' => h2 i' (by omega)
  ((try (conv => cbv)); repeat' (first | (with_reducible exact mK hD) | (with_reducible refine mJ hL ?_; try (conv => cbv)) | (with_reducible refine mS hD ?_; try (conv => cbv)) | (with_reducible refine mT hD ?_; try (conv => cbv)) | (with_reducible refine mF hD ?_; try (conv => cbv)) | (with_reducible refine mB hD (fun _ => ?_) (fun _ => ?_) <;> try (conv => cbv)) | (with_reducible exact True.intro) | (with_reducible refine And.intro ?_ ?_)))
  refine loop_nat hL n (fun k => [(5, VI (I k))]) (fun k => []) (fun k => ∀ i, i < k → ¬ (f (2 * i) ≤ x ∧ x ≤ f (2 * i + 1))) (fun i hi => absurd hi (Nat.not_lt_zero i)) ?_ ?_
  · ((try (conv => cbv)); repeat' (first | (with_reducible exact mK hD) | (with_reducible refine mJ hL ?_; try (conv => cbv)) | (with_reducible refine mS hD ?_; try (conv => cbv)) | (with_reducible refine mT hD ?_; try (conv => cbv)) | (with_reducible refine mF hD ?_; try (conv => cbv)) | (with_reducible refine mB hD (fun _ => ?_) (fun _ => ?_) <;> try (conv => cbv)) | (with_reducible exact True.intro) | (with_reducible refine And.intro ?_ ?_)))
    all_goals try (first | exact trivial | assumption | rfl | exact DEq.rfl' _ | ((subst hD; (try simp only [nc] at *); (try simp only [Int.ofNat_eq_natCast] at *); (try simp (disch := omega) only [std, wrap64, Int.toNat_natCast, Nat.succ_eq_add_one, Int.natCast_add, Int.natCast_one, decide_eq_true_eq, decide_eq_false_iff_not, Int.not_lt, Int.not_le, Nat.not_lt, Nat.not_le, beq_iff_eq, beq_eq_false_iff_ne, Bool.not_eq_true', Bool.not_eq_false', ne_eq, hI] at *)) <;> first | omega | exact int_eq (by omega) | assumption | rfl | exact DEq.rfl' _))
  · intro k hk
    have e1 : (2 * (k : Int)).toNat = 2 * k := by omega
    have e2 : (2 * (k : Int) + 1).toNat = 2 * k + 1 := by omega
    have hk1 := ht k
    have hk2 := hf k
    ((try (conv => cbv)); repeat' (first | (with_reducible exact mK hD) | (with_reducible refine mJ hL ?_; try (conv => cbv)) | (with_reducible refine mS hD ?_; try (conv => cbv)) | (with_reducible refine mT hD ?_; try (conv => cbv)) | (with_reducible refine mF hD ?_; try (conv => cbv)) | (with_reducible refine mB hD (fun _ => ?_) (fun _ => ?_) <;> try (conv => cbv)) | (with_reducible exact True.intro) | (with_reducible refine And.intro ?_ ?_)))
    all_goals try (first | exact trivial | assumption | rfl | exact DEq.rfl' _ | ((subst hD; (try simp only [nc] at *); (try simp only [Int.ofNat_eq_natCast] at *); (try simp (disch := omega) only [std, wrap64, Int.toNat_natCast, Nat.succ_eq_add_one, Int.natCast_add, Int.natCast_one, decide_eq_true_eq, decide_eq_false_iff_not, Int.not_lt, Int.not_le, Nat.not_lt, Nat.not_le, beq_iff_eq, beq_eq_false_iff_ne, Bool.not_eq_true', Bool.not_eq_false', ne_eq, hI, e1, e2] at *)) <;> first | omega | exact int_eq (by omega) | assumption | rfl | exact DEq.rfl' _))
    · (subst hD; (try simp only [nc] at *); (try simp only [Int.ofNat_eq_natCast] at *); (try simp (disch := omega) only [std, wrap64, Int.toNat_natCast, Nat.succ_eq_add_one, Int.natCast_add, Int.natCast_one, decide_eq_true_eq, decide_eq_false_iff_not, Int.not_lt, Int.not_le, Nat.not_lt, Nat.not_le, beq_iff_eq, beq_eq_false_iff_ne, Bool.not_eq_true', Bool.not_eq_false', ne_eq, hI, e1, e2] at *))
      rw [hk1 (by omega) (by assumption) (by assumption)]
    iterate 2
      · have hne : ¬ (f (2 * k) ≤ x ∧ x ≤ f (2 * k + 1)) ∧ 2 * k + 1 < n := by (subst hD; (try simp only [nc] at *); (try simp only [Int.ofNat_eq_natCast] at *); (try simp (disch := omega) only [std, wrap64, Int.toNat_natCast, Nat.succ_eq_add_one, Int.natCast_add, Int.natCast_one, decide_eq_true_eq, decide_eq_false_iff_not, Int.not_lt, Int.not_le, Nat.not_lt, Nat.not_le, beq_iff_eq, beq_eq_false_iff_ne, Bool.not_eq_true', Bool.not_eq_false', ne_eq, hI, e1, e2] at *)); omega
        refine ⟨k + 1, ⟨by omega, fun i hi => ?_⟩, ssem_of ?_, by omega⟩
        · rcases Nat.lt_or_ge i k with h | h
          · exact hk.2 i h
          · rw [show i = k by omega]; exact hne.1
        · ((try (conv => cbv)); repeat' (first | (with_reducible exact mK hD) | (with_reducible refine mJ hL ?_; try (conv => cbv)) | (with_reducible refine mS hD ?_; try (conv => cbv)) | (with_reducible refine mT hD ?_; try (conv => cbv)) | (with_reducible refine mF hD ?_; try (conv => cbv)) | (with_reducible refine mB hD (fun _ => ?_) (fun _ => ?_) <;> try (conv => cbv)) | (with_reducible exact True.intro) | (with_reducible refine And.intro ?_ ?_)))
          all_goals try (first | exact trivial | assumption | rfl | exact DEq.rfl' _ | ((subst hD; (try simp only [nc] at *); (try simp only [Int.ofNat_eq_natCast] at *); (try simp (disch := omega) only [std, wrap64, Int.toNat_natCast, Nat.succ_eq_add_one, Int.natCast_add, Int.natCast_one, decide_eq_true_eq, decide_eq_false_iff_not, Int.not_lt, Int.not_le, Nat.not_lt, Nat.not_le, beq_iff_eq, beq_eq_false_iff_ne, Bool.not_eq_true', Bool.not_eq_false', ne_eq, hI] at *)) <;> first | omega | exact int_eq (by omega) | assumption | rfl | exact DEq.rfl' _))
    · have hb2 := hk2 (by (subst hD; (try simp only [nc] at *); (try simp only [Int.ofNat_eq_natCast] at *); (try simp (disch := omega) only [std, wrap64, Int.toNat_natCast, Nat.succ_eq_add_one, Int.natCast_add, Int.natCast_one, decide_eq_true_eq, decide_eq_false_iff_not, Int.not_lt, Int.not_le, Nat.not_lt, Nat.not_le, beq_iff_eq, beq_eq_false_iff_ne, Bool.not_eq_true', Bool.not_eq_false', ne_eq, hI] at *)); omega) hk.2
      rw [hb2]
def zLo : List Int := [768, 1155, 1425, 8203, 8400, 65024, 65056]
def zHi : List Int := [879, 1161, 1469, 8207, 8432, 65039, 65071]
abbrev spanRow (lo hi : Nat → Int) (i : Nat) : List DV := [.s (.int .i32 (lo i)), .s (.int .i32 (hi i))]
abbrev at0 (l : List Int) : Nat → Int := fun i => l.getD i 0
theorem con_zeroSpans : PRet Try.prog 165 [] [.c (.l 2 7 (spanRow (at0 zLo) (at0 zHi)))] [] := by
  refine pret_of_awp (fn := Try.f165) (c := bodyOf Try.f165) envOk (by kernel_rfl) (by kernel_rfl) (by kernel_rfl) (by kernel_rfl) rfl (by kernel_rfl) (by kernel_rfl) ?_
  intro w0 mine D C L hD hC hL
  ((try (conv => cbv)); repeat' (first | (with_reducible exact mK hD) | (with_reducible refine mJ hL ?_; try (conv => cbv)) | (with_reducible refine mS hD ?_; try (conv => cbv)) | (with_reducible refine mT hD ?_; try (conv => cbv)) | (with_reducible refine mF hD ?_; try (conv => cbv)) | (with_reducible refine mB hD (fun _ => ?_) (fun _ => ?_) <;> try (conv => cbv)) | (with_reducible exact True.intro) | (with_reducible refine And.intro ?_ ?_)))
  subst hD
  exact DEq.rfl' _
def wLo : List Int := [4352, 11904, 12353, 19968, 44032, 63744, 65072, 65280, 65504, 127744, 129280, 131072]
def wHi : List Int := [4447, 12350, 19903, 42191, 55203, 64255, 65135, 65376, 65510, 128591, 129535, 262141]
theorem con_wideSpans : PRet Try.prog 166 [] [.c (.l 2 12 (spanRow (at0 wLo) (at0 wHi)))] [] := by
  refine pret_of_awp (fn := Try.f166) (c := bodyOf Try.f166) envOk (by kernel_rfl) (by kernel_rfl) (by kernel_rfl) (by kernel_rfl) rfl (by kernel_rfl) (by kernel_rfl) ?_
  intro w0 mine D C L hD hC hL
  ((try (conv => cbv)); repeat' (first | (with_reducible exact mK hD) | (with_reducible refine mJ hL ?_; try (conv => cbv)) | (with_reducible refine mS hD ?_; try (conv => cbv)) | (with_reducible refine mT hD ?_; try (conv => cbv)) | (with_reducible refine mF hD ?_; try (conv => cbv)) | (with_reducible refine mB hD (fun _ => ?_) (fun _ => ?_) <;> try (conv => cbv)) | (with_reducible exact True.intro) | (with_reducible refine And.intro ?_ ?_)))
  subst hD
  exact DEq.rfl' _
theorem con_inSpans1 (i r : Int) (z n : Nat) (lo hi : Nat → Int) (b : Bool) (h0 : 0 ≤ i) (h1 : i.toNat < n) (hb : b = decide (r ≤ hi i.toNat)) : PRet Try.prog 172 [AI i, .r (.p [.l z n (spanRow lo hi)]), .r (.p [.s (.int .i32 r)])] [RB b] [] := by
  refine pret_of_awp (fn := Try.f172) (c := bodyOf Try.f172) envOk (by kernel_rfl) (by kernel_rfl) (by kernel_rfl) (by kernel_rfl) rfl (by kernel_rfl) (by kernel_rfl) ?_
  intro w0 mine D C L hD hC hL
  ((try (conv => cbv)); repeat' (first | (with_reducible exact mK hD) | (with_reducible refine mJ hL ?_; try (conv => cbv)) | (with_reducible refine mS hD ?_; try (conv => cbv)) | (with_reducible refine mT hD ?_; try (conv => cbv)) | (with_reducible refine mF hD ?_; try (conv => cbv)) | (with_reducible refine mB hD (fun _ => ?_) (fun _ => ?_) <;> try (conv => cbv)) | (with_reducible exact True.intro) | (with_reducible refine And.intro ?_ ?_)))
  all_goals try (first | exact trivial | assumption | rfl | exact DEq.rfl' _ | ((subst hD; (try simp only [nc] at *); (try simp only [Int.ofNat_eq_natCast] at *); (try simp (disch := omega) only [std, wrap64, Int.toNat_natCast, Nat.succ_eq_add_one, Int.natCast_add, Int.natCast_one, decide_eq_true_eq, decide_eq_false_iff_not, Int.not_lt, Int.not_le, Nat.not_lt, Nat.not_le, beq_iff_eq, beq_eq_false_iff_ne, Bool.not_eq_true', Bool.not_eq_false', ne_eq] at *)) <;> first | omega | exact int_eq (by omega) | assumption | rfl | exact DEq.rfl' _))
  rw [hb]
  subst hD
  rfl
structure OkS (n : Nat) (p : Nat → Bool) (i j : Int) : Prop where
  h : 0 ≤ i ∧ i ≤ j ∧ j ≤ n
  lo : ∀ a : Nat, (a : Int) < i → p a = false
  hi : ∀ a : Nat, j ≤ (a : Int) → a < n → p a = true
def muS (x : Int × Int) : Nat := (x.2 - x.1).toNat
theorem mid_eq {i j : Int} (h : 0 ≤ i ∧ i < j ∧ j ≤ 1000000) : std.wrapI IntKind.i64 (std.shrI IntKind.u64 (std.wrapI IntKind.u64 (std.addI IntKind.i64 i j)) 1) = (i + j) / 2 := by
  have h1 : IntKind.wrap .i64 (i + j) = i + j := wrap64 _ (by omega)
  have h2 : IntKind.wrap .u64 (i + j) = i + j := IntWalk.u64_in _ (by omega)
  have h3 : (i + j).fdiv (2 ^ min (1 : Int).toNat IntKind.u64.bits) = (i + j) / 2 := by
    rw [show (2 : Int) ^ min (1 : Int).toNat IntKind.u64.bits = 2 by decide]
    rw [Int.fdiv_eq_ediv_of_nonneg _ (by omega)]
  simp only [std, h1, h2, h3]
  exact wrap64 _ (by omega)
section
variable {n : Nat} {p : Nat → Bool} {i j : Int}
theorem OkS.high (hok : OkS n p i j) (hn : n ≤ 1000000) (hmono : ∀ a b, a ≤ b → b < n → p a = true → p b = true) (h : i < j) (hp : p ((i + j) / 2).toNat = true) : OkS n p i ((i + j) / 2) := by
  have := hok.h
  exact ⟨by omega, hok.lo, fun a ha hlt => hmono _ a (by omega) hlt hp⟩
theorem OkS.low (hok : OkS n p i j) (hn : n ≤ 1000000) (hmono : ∀ a b, a ≤ b → b < n → p a = true → p b = true) (h : i < j) (hp : p ((i + j) / 2).toNat = false) : OkS n p ((i + j) / 2 + 1) j := by
  have := hok.h
  refine ⟨by omega, fun a ha => ?_, hok.hi⟩
  cases hpa : p a with
  | false => rfl
  | true => rw [hmono a ((i + j) / 2).toNat (by omega) (by omega) hpa] at hp; cases hp
theorem OkS.mu1 (hok : OkS n p i j) (h : i < j) : muS (i, (i + j) / 2) < muS (i, j) := by
  have := hok.h
  simp only [muS]; omega
theorem OkS.mu2 (hok : OkS n p i j) (h : i < j) : muS ((i + j) / 2 + 1, j) < muS (i, j) := by
  have := hok.h
  simp only [muS]; omega
end
set_option maxHeartbeats 1000000 in
theorem con_Search (g : Nat) (r1 r2 : List DV) (n : Nat) (p : Nat → Bool) (hn : n ≤ 1000000) (hmono : ∀ a b, a ≤ b → b < n → p a = true → p b = true)
    (hg : ∀ i : Int, 0 ≤ i → i.toNat < n → ∀ b, b = p i.toNat → PRet Try.prog g [AI i, .r (.p r1), .r (.p r2)] [RB b] []) :
    PCon Try.prog 171 [AI (n : Nat), .r (.fr g [r1, r2])] (fun rs outs => outs = [] ∧ ∃ r : Nat, rs = [RI (r : Nat)] ∧ r ≤ n ∧ (∀ a, a < r → p a = false) ∧ (r < n → p r = true)) := by
  refine prel_of_awp (fn := Try.f171) (c := bodyOf Try.f171) envOk (by kernel_rfl) (by kernel_rfl) (by kernel_rfl) (by kernel_rfl) rfl (by kernel_rfl) (by kernel_rfl) ?_
  intro w0 mine D C L hD hC hL
  ((try (conv => cbv)); repeat' (first | (with_reducible exact mK hD) | (with_reducible refine mJ hL ?_; try (conv => cbv)) | (with_reducible refine mS hD ?_; try (conv => cbv)) | (with_reducible refine mT hD ?_; try (conv => cbv)) | (with_reducible refine mF hD ?_; try (conv => cbv)) | (with_reducible refine mB hD (fun _ => ?_) (fun _ => ?_) <;> try (conv => cbv)) | (with_reducible exact True.intro) | (with_reducible refine And.intro ?_ ?_)))
  refine loop_of hL (fun x : Int × Int => [(5, VI x.1), (6, VI x.2)]) (fun _ => []) (fun x => OkS n p x.1 x.2) muS (0, (n : Int)) ⟨by omega, fun a h => by omega, fun a h => by omega⟩ ?_ ?_
  · ((try (conv => cbv)); repeat' (first | (with_reducible exact mK hD) | (with_reducible refine mJ hL ?_; try (conv => cbv)) | (with_reducible refine mS hD ?_; try (conv => cbv)) | (with_reducible refine mT hD ?_; try (conv => cbv)) | (with_reducible refine mF hD ?_; try (conv => cbv)) | (with_reducible refine mB hD (fun _ => ?_) (fun _ => ?_) <;> try (conv => cbv)) | (with_reducible exact True.intro) | (with_reducible refine And.intro ?_ ?_)))
    all_goals try (first | exact trivial | assumption | rfl | exact DEq.rfl' _ | ((subst hD; (try simp only [nc] at *); (try simp only [Int.ofNat_eq_natCast] at *); (try simp (disch := omega) only [std, wrap64, Int.toNat_natCast, Nat.succ_eq_add_one, Int.natCast_add, Int.natCast_one, decide_eq_true_eq, decide_eq_false_iff_not, Int.not_lt, Int.not_le, Nat.not_lt, Nat.not_le, beq_iff_eq, beq_eq_false_iff_ne, Bool.not_eq_true', Bool.not_eq_false', ne_eq] at *)) <;> first | omega | exact int_eq (by omega) | assumption | rfl | exact DEq.rfl' _))
  · rintro ⟨i, j⟩ hok
    have hb := hok.h
    simp only at hb hok
    have hen : i.toNat ≤ n ∧ ((i.toNat : Nat) : Int) = i := ⟨by omega, Int.toNat_of_nonneg hb.1⟩
    have hen2 : ¬ i < j → (∀ a : Nat, a < i.toNat → (a : Int) < i) ∧ j ≤ ((i.toNat : Nat) : Int) := fun h => ⟨fun a ha => by omega, by omega⟩
    have hqb : i < j → 0 ≤ (i + j) / 2 ∧ ((i + j) / 2).toNat < n ∧ j ≤ 1000000 := fun h => by omega
    ((try (conv => cbv)); repeat' (first | (with_reducible exact mK hD) | (with_reducible refine mJ hL ?_; try (conv => cbv)) | (with_reducible refine mS hD ?_; try (conv => cbv)) | (with_reducible refine mT hD ?_; try (conv => cbv)) | (with_reducible refine mF hD ?_; try (conv => cbv)) | (with_reducible refine mB hD (fun _ => ?_) (fun _ => ?_) <;> try (conv => cbv)) | (with_reducible exact True.intro) | (with_reducible refine And.intro ?_ ?_)))
    all_goals try (first | exact trivial | assumption | rfl | exact DEq.rfl' _ | ((subst hD; (try simp only [nc] at *); (try simp only [Int.ofNat_eq_natCast] at *); (try simp (disch := omega) only [std, wrap64, Int.toNat_natCast, Nat.succ_eq_add_one, Int.natCast_add, Int.natCast_one, decide_eq_true_eq, decide_eq_false_iff_not, Int.not_lt, Int.not_le, Nat.not_lt, Nat.not_le, beq_iff_eq, beq_eq_false_iff_ne, Bool.not_eq_true', Bool.not_eq_false', ne_eq] at *)) <;> first | omega | exact int_eq (by omega) | assumption | rfl | exact DEq.rfl' _))
    · have hlt : i < j := by (subst hD; (try simp only [nc] at *); (try simp only [Int.ofNat_eq_natCast] at *); (try simp (disch := omega) only [std, wrap64, Int.toNat_natCast, Nat.succ_eq_add_one, Int.natCast_add, Int.natCast_one, decide_eq_true_eq, decide_eq_false_iff_not, Int.not_lt, Int.not_le, Nat.not_lt, Nat.not_le, beq_iff_eq, beq_eq_false_iff_ne, Bool.not_eq_true', Bool.not_eq_false', ne_eq] at *)); omega
      obtain ⟨q, hq⟩ : ∃ q, q = (i + j) / 2 := ⟨_, rfl⟩
      obtain ⟨b, hbq⟩ := opq (p q.toNat)
      have hqb2 := hqb hlt
      rw [← hq] at hqb2
      refine call_of hD hC (hg q hqb2.1 hqb2.2.1 b hbq) ?_
      obtain ⟨q1, hq1⟩ : ∃ x, x = q + 1 := ⟨_, rfl⟩
      have hhi : p q.toNat = true → OkS n p i q := fun h => by rw [hq] at h ⊢; exact hok.high hn hmono hlt h
      have hlo : p q.toNat = false → OkS n p q1 j := fun h => by rw [hq1, hq]; rw [hq] at h; exact hok.low hn hmono hlt h
      have hm1 : muS (i, q) < muS (i, j) := by rw [hq]; exact hok.mu1 hlt
      have hm2 : muS (q1, j) < muS (i, j) := by rw [hq1, hq]; exact hok.mu2 hlt
      have hmid : D.wrapI IntKind.i64 (D.shrI IntKind.u64 (D.wrapI IntKind.u64 (D.addI IntKind.i64 i j)) 1) = q := by
        rw [hD, hq]; exact mid_eq ⟨hb.1, hlt, hqb2.2.2⟩
      ((try (conv => cbv)); repeat' (first | (with_reducible exact mK hD) | (with_reducible refine mJ hL ?_; try (conv => cbv)) | (with_reducible refine mS hD ?_; try (conv => cbv)) | (with_reducible refine mT hD ?_; try (conv => cbv)) | (with_reducible refine mF hD ?_; try (conv => cbv)) | (with_reducible refine mB hD (fun _ => ?_) (fun _ => ?_) <;> try (conv => cbv)) | (with_reducible exact True.intro) | (with_reducible refine And.intro ?_ ?_)))
      · exact int_eq hmid
      · cases r1 with
        | nil => exact trivial
        | cons d l => exact allLe_ro (d :: l)
      · cases r2 with
        | nil => exact trivial
        | cons d l => exact allLe_ro (d :: l)
      all_goals try (first | exact trivial | assumption | rfl | exact DEq.rfl' _ | ((subst hD; (try simp only [nc] at *); (try simp only [Int.ofNat_eq_natCast] at *); (try simp (disch := omega) only [std, wrap64, Int.toNat_natCast, Nat.succ_eq_add_one, Int.natCast_add, Int.natCast_one, decide_eq_true_eq, decide_eq_false_iff_not, Int.not_lt, Int.not_le, Nat.not_lt, Nat.not_le, beq_iff_eq, beq_eq_false_iff_ne, Bool.not_eq_true', Bool.not_eq_false', ne_eq] at *)) <;> first | omega | exact int_eq (by omega) | assumption | rfl | exact DEq.rfl' _))
      · rename_i hp
        refine ⟨(i, q), hhi (by rw [← hbq]; exact hp), ssem_of ?_, hm1⟩
        ((try (conv => cbv)); repeat' (first | (with_reducible exact mK hD) | (with_reducible refine mJ hL ?_; try (conv => cbv)) | (with_reducible refine mS hD ?_; try (conv => cbv)) | (with_reducible refine mT hD ?_; try (conv => cbv)) | (with_reducible refine mF hD ?_; try (conv => cbv)) | (with_reducible refine mB hD (fun _ => ?_) (fun _ => ?_) <;> try (conv => cbv)) | (with_reducible exact True.intro) | (with_reducible refine And.intro ?_ ?_)))
        all_goals try (first | exact trivial | assumption | rfl | exact DEq.rfl' _ | ((subst hD; (try simp only [nc] at *); (try simp only [Int.ofNat_eq_natCast] at *); (try simp (disch := omega) only [std, wrap64, Int.toNat_natCast, Nat.succ_eq_add_one, Int.natCast_add, Int.natCast_one, decide_eq_true_eq, decide_eq_false_iff_not, Int.not_lt, Int.not_le, Nat.not_lt, Nat.not_le, beq_iff_eq, beq_eq_false_iff_ne, Bool.not_eq_true', Bool.not_eq_false', ne_eq] at *)) <;> first | omega | exact int_eq (by omega) | assumption | rfl | exact DEq.rfl' _))
        all_goals exact int_eq hmid
      · rename_i hp
        refine ⟨(q1, j), hlo (by rw [← hbq]; exact hp), ssem_of ?_, hm2⟩
        ((try (conv => cbv)); repeat' (first | (with_reducible exact mK hD) | (with_reducible refine mJ hL ?_; try (conv => cbv)) | (with_reducible refine mS hD ?_; try (conv => cbv)) | (with_reducible refine mT hD ?_; try (conv => cbv)) | (with_reducible refine mF hD ?_; try (conv => cbv)) | (with_reducible refine mB hD (fun _ => ?_) (fun _ => ?_) <;> try (conv => cbv)) | (with_reducible exact True.intro) | (with_reducible refine And.intro ?_ ?_)))
        all_goals try (first | exact trivial | assumption | rfl | exact DEq.rfl' _ | ((subst hD; (try simp only [nc] at *); (try simp only [Int.ofNat_eq_natCast] at *); (try simp (disch := omega) only [std, wrap64, Int.toNat_natCast, Nat.succ_eq_add_one, Int.natCast_add, Int.natCast_one, decide_eq_true_eq, decide_eq_false_iff_not, Int.not_lt, Int.not_le, Nat.not_lt, Nat.not_le, beq_iff_eq, beq_eq_false_iff_ne, Bool.not_eq_true', Bool.not_eq_false', ne_eq] at *)) <;> first | omega | exact int_eq (by omega) | assumption | rfl | exact DEq.rfl' _))
        have hend : D.addI IntKind.i64 (D.wrapI IntKind.i64 (D.shrI IntKind.u64 (D.wrapI IntKind.u64 (D.addI IntKind.i64 i j)) 1)) 1 = q1 := by
          rw [hmid, hq1, hD]
          exact wrap64 _ (by omega)
        exact int_eq hend
    · have hlt : ¬ i < j := by (subst hD; (try simp only [nc] at *); (try simp only [Int.ofNat_eq_natCast] at *); (try simp (disch := omega) only [std, wrap64, Int.toNat_natCast, Nat.succ_eq_add_one, Int.natCast_add, Int.natCast_one, decide_eq_true_eq, decide_eq_false_iff_not, Int.not_lt, Int.not_le, Nat.not_lt, Nat.not_le, beq_iff_eq, beq_eq_false_iff_ne, Bool.not_eq_true', Bool.not_eq_false', ne_eq] at *)); omega
      exact ⟨[RI i], [], ⟨rfl, trivial⟩, trivial, rfl, i.toNat, congrArg (fun z : Int => [RI z]) hen.2.symm, hen.1, fun a ha => hok.lo a ((hen2 hlt).1 a ha), fun h => hok.hi _ (hen2 hlt).2 h⟩
end Go.AW
/- Widths of runes, both sides. -/
set_option linter.unusedVariables false
set_option linter.unusedSimpArgs false
namespace Go.AW
open Go.Proofs
set_option maxRecDepth 100000
def inSp (lo hi : Nat → Int) (n : Nat) (r : Int) : Bool := (List.range n).any fun i => decide (lo i ≤ r) && decide (r ≤ hi i)
structure Span (lo hi : Nat → Int) (n : Nat) : Prop where
  le : ∀ i, i < n → lo i ≤ hi i
  lt : ∀ i j, i < j → j < n → hi i < lo j
theorem inSp_of {lo hi : Nat → Int} {n k : Nat} {r : Int} (S : Span lo hi n) (hk : k ≤ n) (h1 : ∀ a, a < k → decide (r ≤ hi a) = false) (h2 : k < n → decide (r ≤ hi k) = true) : inSp lo hi n r = (decide (k < n) && decide (lo k ≤ r)) := by
  rw [Bool.eq_iff_iff]
  simp only [inSp, List.any_eq_true, List.mem_range, Bool.and_eq_true, decide_eq_true_eq] at *
  constructor
  · rintro ⟨i, hi, h3, h4⟩
    have hki : k ≤ i := by
      rcases Nat.lt_or_ge i k with h | h
      · have := h1 i h; simp at this; omega
      · exact h
    rcases Nat.lt_or_ge k i with h | h
    · have := S.lt k i h hi
      have := h2 (by omega)
      omega
    · have : k = i := by omega
      subst this; exact ⟨hi, h3⟩
  · rintro ⟨h3, h4⟩
    exact ⟨k, h3, h4, h2 h3⟩
theorem span_mono {lo hi : Nat → Int} {n : Nat} (S : Span lo hi n) (r : Int) : ∀ a b, a ≤ b → b < n → decide (r ≤ hi a) = true → decide (r ≤ hi b) = true := fun a b h1 h2 h3 => by
  have e : hi a ≤ hi b := by
    rcases Nat.lt_or_ge a b with h | h
    · have := S.lt a b h h2
      have := S.le b h2
      omega
    · have : a = b := by omega
      subst this; exact Int.le_refl _
  simp only [decide_eq_true_eq] at *
  omega
theorem con_inSpans (z n : Nat) (lo hi : Nat → Int) (r : Int) (b : Bool) (hn : n ≤ 1000) (S : Span lo hi n) (hb : b = inSp lo hi n r) : PRet Try.prog 164 [.r (.c (.l z n (spanRow lo hi))), AK .i32 r] [RB b] [] := by
  refine pret_of_awp (fn := Try.f164) (c := bodyOf Try.f164) envOk (by kernel_rfl) (by kernel_rfl) (by kernel_rfl) (by kernel_rfl) rfl (by kernel_rfl) (by kernel_rfl) ?_
  intro w0 mine D C L hD hC hL
  ((try (conv => cbv)); repeat' (first | (with_reducible exact mK hD) | (with_reducible refine mJ hL ?_; try (conv => cbv)) | (with_reducible refine mS hD ?_; try (conv => cbv)) | (with_reducible refine mT hD ?_; try (conv => cbv)) | (with_reducible refine mF hD ?_; try (conv => cbv)) | (with_reducible refine mB hD (fun _ => ?_) (fun _ => ?_) <;> try (conv => cbv)) | (with_reducible exact True.intro) | (with_reducible refine And.intro ?_ ?_)))
  refine call_rel hD hC (con_Search 172 [.l 0 n (spanRow lo hi)] [.s (.int .i32 r)] n (fun i => decide (r ≤ hi i)) (by omega) (span_mono S r) (fun i h0 h1 b hb => con_inSpans1 i r 0 n lo hi b h0 h1 hb)) ?_
  ((try (conv => cbv)); repeat' (first | (with_reducible exact mK hD) | (with_reducible refine mJ hL ?_; try (conv => cbv)) | (with_reducible refine mS hD ?_; try (conv => cbv)) | (with_reducible refine mT hD ?_; try (conv => cbv)) | (with_reducible refine mF hD ?_; try (conv => cbv)) | (with_reducible refine mB hD (fun _ => ?_) (fun _ => ?_) <;> try (conv => cbv)) | (with_reducible exact True.intro) | (with_reducible refine And.intro ?_ ?_)))
  all_goals try (first | exact trivial | assumption | rfl | exact DEq.rfl' _ | ((subst hD; (try simp only [nc] at *); (try simp only [Int.ofNat_eq_natCast] at *); (try simp (disch := omega) only [std, wrap64, Int.toNat_natCast, Nat.succ_eq_add_one, Int.natCast_add, Int.natCast_one, decide_eq_true_eq, decide_eq_false_iff_not, Int.not_lt, Int.not_le, Nat.not_lt, Nat.not_le, beq_iff_eq, beq_eq_false_iff_ne, Bool.not_eq_true', Bool.not_eq_false', ne_eq] at *)) <;> first | omega | exact int_eq (by omega) | assumption | rfl | exact DEq.rfl' _))
  rintro _ _ ⟨rfl, k, rfl, hk, h1, h2⟩
  have hb2 := hb.trans (inSp_of S hk h1 h2)
  ((try (conv => cbv)); repeat' (first | (with_reducible exact mK hD) | (with_reducible refine mJ hL ?_; try (conv => cbv)) | (with_reducible refine mS hD ?_; try (conv => cbv)) | (with_reducible refine mT hD ?_; try (conv => cbv)) | (with_reducible refine mF hD ?_; try (conv => cbv)) | (with_reducible refine mB hD (fun _ => ?_) (fun _ => ?_) <;> try (conv => cbv)) | (with_reducible exact True.intro) | (with_reducible refine And.intro ?_ ?_)))
  all_goals try (first | exact trivial | assumption | rfl | exact DEq.rfl' _ | ((subst hD; (try simp only [nc] at *); (try simp only [Int.ofNat_eq_natCast] at *); (try simp (disch := omega) only [std, wrap64, Int.toNat_natCast, Nat.succ_eq_add_one, Int.natCast_add, Int.natCast_one, decide_eq_true_eq, decide_eq_false_iff_not, Int.not_lt, Int.not_le, Nat.not_lt, Nat.not_le, beq_iff_eq, beq_eq_false_iff_ne, Bool.not_eq_true', Bool.not_eq_false', ne_eq] at *)) <;> first | omega | exact int_eq (by omega) | assumption | rfl | exact DEq.rfl' _))
  · have hkn : k < n := by (subst hD; (try simp only [nc] at *); (try simp only [Int.ofNat_eq_natCast] at *); (try simp (disch := omega) only [std, wrap64, Int.toNat_natCast, Nat.succ_eq_add_one, Int.natCast_add, Int.natCast_one, decide_eq_true_eq, decide_eq_false_iff_not, Int.not_lt, Int.not_le, Nat.not_lt, Nat.not_le, beq_iff_eq, beq_eq_false_iff_ne, Bool.not_eq_true', Bool.not_eq_false', ne_eq] at *)); omega
    rw [hb2, decide_eq_true hkn, Bool.true_and]
    subst hD
    rfl
  · have hkn : ¬ k < n := by (subst hD; (try simp only [nc] at *); (try simp only [Int.ofNat_eq_natCast] at *); (try simp (disch := omega) only [std, wrap64, Int.toNat_natCast, Nat.succ_eq_add_one, Int.natCast_add, Int.natCast_one, decide_eq_true_eq, decide_eq_false_iff_not, Int.not_lt, Int.not_le, Nat.not_lt, Nat.not_le, beq_iff_eq, beq_eq_false_iff_ne, Bool.not_eq_true', Bool.not_eq_false', ne_eq] at *)); omega
    rw [hb2, decide_eq_false hkn]
    rfl
theorem spanZ : Span (at0 zLo) (at0 zHi) 7 := ⟨by decide, fun i j h1 h2 => (by decide : ∀ j, j < 7 → ∀ i, i < j → at0 zHi i < at0 zLo j) j h2 i h1⟩
theorem spanW : Span (at0 wLo) (at0 wHi) 12 := ⟨by decide, fun i j h1 h2 => (by decide : ∀ j, j < 12 → ∀ i, i < j → at0 wHi i < at0 wLo j) j h2 i h1⟩
def runeWidth (r : Int) : Int := if inSp (at0 zLo) (at0 zHi) 7 r then 0 else if inSp (at0 wLo) (at0 wHi) 12 r then 2 else 1
theorem con_implRuneWidth (r w : Int) (hw : w = runeWidth r) : PRet Try.prog 156 [AK .i32 r] [RI w] [] := by
  refine pret_of_awp (fn := Try.f156) (c := bodyOf Try.f156) envOk (by kernel_rfl) (by kernel_rfl) (by kernel_rfl) (by kernel_rfl) rfl (by kernel_rfl) (by kernel_rfl) ?_
  intro w0 mine D C L hD hC hL
  obtain ⟨zl, hzl⟩ := opq (at0 zLo)
  obtain ⟨zh, hzh⟩ := opq (at0 zHi)
  obtain ⟨wl, hwl⟩ := opq (at0 wLo)
  obtain ⟨wh, hwh⟩ := opq (at0 wHi)
  obtain ⟨b1, hb1⟩ := opq (inSp zl zh 7 r)
  obtain ⟨b2, hb2⟩ := opq (inSp wl wh 12 r)
  have hw2 : w = if b1 = true then 0 else if b2 = true then 2 else 1 := by rw [hw, hb1, hb2, hzl, hzh, hwl, hwh]; rfl
  have hz := con_zeroSpans
  have hws := con_wideSpans
  have sz := spanZ
  have sw := spanW
  rw [← hzl, ← hzh] at hz sz
  rw [← hwl, ← hwh] at hws sw
  ((try (conv => cbv)); repeat' (first | (with_reducible exact mK hD) | (with_reducible refine mJ hL ?_; try (conv => cbv)) | (with_reducible refine mS hD ?_; try (conv => cbv)) | (with_reducible refine mT hD ?_; try (conv => cbv)) | (with_reducible refine mF hD ?_; try (conv => cbv)) | (with_reducible refine mB hD (fun _ => ?_) (fun _ => ?_) <;> try (conv => cbv)) | (with_reducible exact True.intro) | (with_reducible refine And.intro ?_ ?_)))
  refine call_of hD hC hz ?_
  ((try (conv => cbv)); repeat' (first | (with_reducible exact mK hD) | (with_reducible refine mJ hL ?_; try (conv => cbv)) | (with_reducible refine mS hD ?_; try (conv => cbv)) | (with_reducible refine mT hD ?_; try (conv => cbv)) | (with_reducible refine mF hD ?_; try (conv => cbv)) | (with_reducible refine mB hD (fun _ => ?_) (fun _ => ?_) <;> try (conv => cbv)) | (with_reducible exact True.intro) | (with_reducible refine And.intro ?_ ?_)))
  all_goals try (first | exact trivial | assumption | rfl | exact DEq.rfl' _ | ((subst hD; (try simp only [nc] at *); (try simp only [Int.ofNat_eq_natCast] at *); (try simp (disch := omega) only [std, wrap64, Int.toNat_natCast, Nat.succ_eq_add_one, Int.natCast_add, Int.natCast_one, decide_eq_true_eq, decide_eq_false_iff_not, Int.not_lt, Int.not_le, Nat.not_lt, Nat.not_le, beq_iff_eq, beq_eq_false_iff_ne, Bool.not_eq_true', Bool.not_eq_false', ne_eq] at *)) <;> first | omega | exact int_eq (by omega) | assumption | rfl | exact DEq.rfl' _))
  refine call_of hD hC (con_inSpans 2 7 zl zh r b1 (by omega) sz hb1) ?_
  ((try (conv => cbv)); repeat' (first | (with_reducible exact mK hD) | (with_reducible refine mJ hL ?_; try (conv => cbv)) | (with_reducible refine mS hD ?_; try (conv => cbv)) | (with_reducible refine mT hD ?_; try (conv => cbv)) | (with_reducible refine mF hD ?_; try (conv => cbv)) | (with_reducible refine mB hD (fun _ => ?_) (fun _ => ?_) <;> try (conv => cbv)) | (with_reducible exact True.intro) | (with_reducible refine And.intro ?_ ?_)))
  all_goals try (first | exact trivial | assumption | rfl | exact DEq.rfl' _ | ((subst hD; (try simp only [nc] at *); (try simp only [Int.ofNat_eq_natCast] at *); (try simp (disch := omega) only [std, wrap64, Int.toNat_natCast, Nat.succ_eq_add_one, Int.natCast_add, Int.natCast_one, decide_eq_true_eq, decide_eq_false_iff_not, Int.not_lt, Int.not_le, Nat.not_lt, Nat.not_le, beq_iff_eq, beq_eq_false_iff_ne, Bool.not_eq_true', Bool.not_eq_false', ne_eq] at *)) <;> first | omega | exact int_eq (by omega) | assumption | rfl | exact DEq.rfl' _))
  · rename_i h
    rw [hw2, if_pos h]
  rename_i hf
  refine call_of hD hC hws ?_
  ((try (conv => cbv)); repeat' (first | (with_reducible exact mK hD) | (with_reducible refine mJ hL ?_; try (conv => cbv)) | (with_reducible refine mS hD ?_; try (conv => cbv)) | (with_reducible refine mT hD ?_; try (conv => cbv)) | (with_reducible refine mF hD ?_; try (conv => cbv)) | (with_reducible refine mB hD (fun _ => ?_) (fun _ => ?_) <;> try (conv => cbv)) | (with_reducible exact True.intro) | (with_reducible refine And.intro ?_ ?_)))
  all_goals try (first | exact trivial | assumption | rfl | exact DEq.rfl' _ | ((subst hD; (try simp only [nc] at *); (try simp only [Int.ofNat_eq_natCast] at *); (try simp (disch := omega) only [std, wrap64, Int.toNat_natCast, Nat.succ_eq_add_one, Int.natCast_add, Int.natCast_one, decide_eq_true_eq, decide_eq_false_iff_not, Int.not_lt, Int.not_le, Nat.not_lt, Nat.not_le, beq_iff_eq, beq_eq_false_iff_ne, Bool.not_eq_true', Bool.not_eq_false', ne_eq] at *)) <;> first | omega | exact int_eq (by omega) | assumption | rfl | exact DEq.rfl' _))
  refine call_of hD hC (con_inSpans 2 12 wl wh r b2 (by omega) sw hb2) ?_
  ((try (conv => cbv)); repeat' (first | (with_reducible exact mK hD) | (with_reducible refine mJ hL ?_; try (conv => cbv)) | (with_reducible refine mS hD ?_; try (conv => cbv)) | (with_reducible refine mT hD ?_; try (conv => cbv)) | (with_reducible refine mF hD ?_; try (conv => cbv)) | (with_reducible refine mB hD (fun _ => ?_) (fun _ => ?_) <;> try (conv => cbv)) | (with_reducible exact True.intro) | (with_reducible refine And.intro ?_ ?_)))
  all_goals try (first | exact trivial | assumption | rfl | exact DEq.rfl' _ | ((subst hD; (try simp only [nc] at *); (try simp only [Int.ofNat_eq_natCast] at *); (try simp (disch := omega) only [std, wrap64, Int.toNat_natCast, Nat.succ_eq_add_one, Int.natCast_add, Int.natCast_one, decide_eq_true_eq, decide_eq_false_iff_not, Int.not_lt, Int.not_le, Nat.not_lt, Nat.not_le, beq_iff_eq, beq_eq_false_iff_ne, Bool.not_eq_true', Bool.not_eq_false', ne_eq] at *)) <;> first | omega | exact int_eq (by omega) | assumption | rfl | exact DEq.rfl' _))
  · rename_i h
    rw [hw2, if_neg (by rw [hf]; decide), if_pos h]
  · rename_i h
    rw [hw2, if_neg (by rw [hf]; decide), if_neg (by rw [h]; decide)]
def zs : List Int := [768, 879, 1155, 1161, 1425, 1469, 8203, 8207, 8400, 8432, 65024, 65039, 65056, 65071]
def ws : List Int := [4352, 4447, 11904, 12350, 12353, 19903, 19968, 42191, 44032, 55203, 63744, 64255, 65072, 65135, 65280, 65376, 65504, 65510, 127744, 128591, 129280, 129535, 131072, 262141]
theorem zs_eq (r : Int) : l1In r (at0 zs) 14 = inSp (at0 zLo) (at0 zHi) 7 r := rfl
theorem ws_eq (r : Int) : l1In r (at0 ws) 24 = inSp (at0 wLo) (at0 wHi) 12 r := rfl
theorem con_specRuneWidth (r w : Int) (hr : -2147483648 ≤ r ∧ r ≤ 2147483647) (hw : w = runeWidth r) : PRet Try.prog 153 [AK .i32 r] [RI w] [] := by
  refine pret_of_awp (fn := Try.f153) (c := bodyOf Try.f153) envOk (by kernel_rfl) (by kernel_rfl) (by kernel_rfl) (by kernel_rfl) rfl (by kernel_rfl) (by kernel_rfl) ?_
  intro w0 mine D C L hD hC hL
  obtain ⟨b1, hb1⟩ := opq (l1In r (at0 zs) 14)
  obtain ⟨b2, hb2⟩ := opq (l1In r (at0 ws) 24)
  have hw2 : w = if b1 = true then 0 else if b2 = true then 2 else 1 := by rw [hw, hb1, hb2, zs_eq, ws_eq]; rfl
  ((try (conv => cbv)); repeat' (first | (with_reducible exact mK hD) | (with_reducible refine mJ hL ?_; try (conv => cbv)) | (with_reducible refine mS hD ?_; try (conv => cbv)) | (with_reducible refine mT hD ?_; try (conv => cbv)) | (with_reducible refine mF hD ?_; try (conv => cbv)) | (with_reducible refine mB hD (fun _ => ?_) (fun _ => ?_) <;> try (conv => cbv)) | (with_reducible exact True.intro) | (with_reducible refine And.intro ?_ ?_)))
  refine call_of hD hC (con_l1In 1 14 (fun i => D.nthI zs i) r b1 (by omega) (by rw [hD]; exact hb1)) ?_
  ((try (conv => cbv)); repeat' (first | (with_reducible exact mK hD) | (with_reducible refine mJ hL ?_; try (conv => cbv)) | (with_reducible refine mS hD ?_; try (conv => cbv)) | (with_reducible refine mT hD ?_; try (conv => cbv)) | (with_reducible refine mF hD ?_; try (conv => cbv)) | (with_reducible refine mB hD (fun _ => ?_) (fun _ => ?_) <;> try (conv => cbv)) | (with_reducible exact True.intro) | (with_reducible refine And.intro ?_ ?_)))
  all_goals try (first | exact trivial | assumption | rfl | exact DEq.rfl' _ | ((subst hD; (try simp only [nc] at *); (try simp only [Int.ofNat_eq_natCast] at *); (try simp (disch := omega) only [std, wrap64, Int.toNat_natCast, Nat.succ_eq_add_one, Int.natCast_add, Int.natCast_one, decide_eq_true_eq, decide_eq_false_iff_not, Int.not_lt, Int.not_le, Nat.not_lt, Nat.not_le, beq_iff_eq, beq_eq_false_iff_ne, Bool.not_eq_true', Bool.not_eq_false', ne_eq] at *)) <;> first | omega | exact int_eq (by omega) | assumption | rfl | exact DEq.rfl' _))
  · rename_i h
    rw [hw2, if_pos h]
  rename_i hf
  refine call_of hD hC (con_l1In 1 24 (fun i => D.nthI ws i) r b2 (by omega) (by rw [hD]; exact hb2)) ?_
  ((try (conv => cbv)); repeat' (first | (with_reducible exact mK hD) | (with_reducible refine mJ hL ?_; try (conv => cbv)) | (with_reducible refine mS hD ?_; try (conv => cbv)) | (with_reducible refine mT hD ?_; try (conv => cbv)) | (with_reducible refine mF hD ?_; try (conv => cbv)) | (with_reducible refine mB hD (fun _ => ?_) (fun _ => ?_) <;> try (conv => cbv)) | (with_reducible exact True.intro) | (with_reducible refine And.intro ?_ ?_)))
  all_goals try (first | exact trivial | assumption | rfl | exact DEq.rfl' _ | ((subst hD; (try simp only [nc] at *); (try simp only [Int.ofNat_eq_natCast] at *); (try simp (disch := omega) only [std, wrap64, Int.toNat_natCast, Nat.succ_eq_add_one, Int.natCast_add, Int.natCast_one, decide_eq_true_eq, decide_eq_false_iff_not, Int.not_lt, Int.not_le, Nat.not_lt, Nat.not_le, beq_iff_eq, beq_eq_false_iff_ne, Bool.not_eq_true', Bool.not_eq_false', ne_eq] at *)) <;> first | omega | exact int_eq (by omega) | assumption | rfl | exact DEq.rfl' _))
  · rename_i h
    rw [hw2, if_neg (by rw [hf]; decide), if_pos h]
  · rename_i h
    rw [hw2, if_neg (by rw [hf]; decide), if_neg (by rw [h]; decide)]
end Go.AW
/- Runes as bytes: what the functions compute. -/
set_option linter.unusedVariables false
set_option linter.unusedSimpArgs false
namespace Go.AW
open Go.Proofs
set_option maxRecDepth 100000
theorem con_l1Valid (r : Int) (b : Bool) (hb : b = validR r) : PRet Try.prog 117 [AI r] [RB b] [] := by
  refine pret_of_awp (fn := Try.f117) (c := bodyOf Try.f117) envOk (by kernel_rfl) (by kernel_rfl) (by kernel_rfl) (by kernel_rfl) rfl (by kernel_rfl) (by kernel_rfl) ?_
  intro w0 mine D C L hD hC hL
  ((try (conv => cbv)); repeat' (first | (with_reducible exact mK hD) | (with_reducible refine mJ hL ?_; try (conv => cbv)) | (with_reducible refine mS hD ?_; try (conv => cbv)) | (with_reducible refine mT hD ?_; try (conv => cbv)) | (with_reducible refine mF hD ?_; try (conv => cbv)) | (with_reducible refine mB hD (fun _ => ?_) (fun _ => ?_) <;> try (conv => cbv)) | (with_reducible exact True.intro) | (with_reducible refine And.intro ?_ ?_)))
  all_goals try exact trivial
  all_goals (subst hb; refine congrArg Value.bool ?_; (subst hD; (try simp only [nc] at *); (try simp only [Int.ofNat_eq_natCast] at *); (try simp (disch := omega) only [std, wrap64, Int.toNat_natCast, Nat.succ_eq_add_one, Int.natCast_add, Int.natCast_one, decide_eq_true_eq, decide_eq_false_iff_not, Int.not_lt, Int.not_le, Nat.not_lt, Nat.not_le, beq_iff_eq, beq_eq_false_iff_ne, Bool.not_eq_true', Bool.not_eq_false', ne_eq] at *)); unfold validR; first | (rw [eq_comm, Bool.eq_iff_iff]; simp; omega) | (rw [Bool.eq_iff_iff]; simp; omega))
theorem con_l1Utf8 (r : Int) (s : ByteArray) (hv : validR r = true) (hs : s = Utf8.encode r) : PRet Try.prog 118 [AI r] [RS s] [] := by
  refine pret_of_awp (fn := Try.f118) (c := bodyOf Try.f118) envOk (by kernel_rfl) (by kernel_rfl) (by kernel_rfl) (by kernel_rfl) rfl (by kernel_rfl) (by kernel_rfl) ?_
  intro w0 mine D C L hD hC hL
  ((try (conv => cbv)); repeat' (first | (with_reducible exact mK hD) | (with_reducible refine mJ hL ?_; try (conv => cbv)) | (with_reducible refine mS hD ?_; try (conv => cbv)) | (with_reducible refine mT hD ?_; try (conv => cbv)) | (with_reducible refine mF hD ?_; try (conv => cbv)) | (with_reducible refine mB hD (fun _ => ?_) (fun _ => ?_) <;> try (conv => cbv)) | (with_reducible exact True.intro) | (with_reducible refine And.intro ?_ ?_)))
  all_goals try exact trivial
  all_goals try (first | exact trivial | assumption | rfl | exact DEq.rfl' _ | ((subst hD; (try simp only [nc] at *); (try simp only [Int.ofNat_eq_natCast] at *); (try simp (disch := omega) only [std, wrap64, Int.toNat_natCast, Nat.succ_eq_add_one, Int.natCast_add, Int.natCast_one, decide_eq_true_eq, decide_eq_false_iff_not, Int.not_lt, Int.not_le, Nat.not_lt, Nat.not_le, beq_iff_eq, beq_eq_false_iff_ne, Bool.not_eq_true', Bool.not_eq_false', ne_eq] at *)) <;> first | omega | exact int_eq (by omega) | assumption | rfl | exact DEq.rfl' _))
  all_goals (try (subst hD; exact fun i _ => ⟨_, rfl⟩))
  all_goals (
    refine str_eq (str_ext ?_)
    subst hs
    show _ = enc r
    have h0 := hv
    unfold validR at h0
    simp at h0
    (subst hD; (try simp only [nc] at *); (try simp only [Int.ofNat_eq_natCast] at *); (try simp (disch := omega) only [std, wrap64, Int.toNat_natCast, Nat.succ_eq_add_one, Int.natCast_add, Int.natCast_one, decide_eq_true_eq, decide_eq_false_iff_not, Int.not_lt, Int.not_le, Nat.not_lt, Nat.not_le, beq_iff_eq, beq_eq_false_iff_ne, Bool.not_eq_true', Bool.not_eq_false', ne_eq, wU8, quo64, rem64] at *))
    first
    | rw [enc_1 (by omega)]
    | rw [enc_2 (by omega)]
    | rw [enc_3 hv (by omega)]
    | rw [enc_4 hv (by omega)])
  · show [b8 _] = _
    refine congrArg (fun x => [b8 x]) ?_
    omega
  · show [b8 _, b8 _] = _
    exact congr (congrArg _ (congrArg b8 (by simp (disch := omega) only [List.getD_cons_zero, List.getD_cons_succ, Int.tdiv_eq_ediv_of_nonneg, Int.tmod_eq_emod_of_nonneg, wrap64] <;> omega))) (congrArg (fun x => [b8 x]) (by simp (disch := omega) only [List.getD_cons_zero, List.getD_cons_succ, Int.tdiv_eq_ediv_of_nonneg, Int.tmod_eq_emod_of_nonneg, wrap64] <;> omega))
  · show [b8 _, b8 _, b8 _] = _
    exact congr (congrArg _ (congrArg b8 (by simp (disch := omega) only [List.getD_cons_zero, List.getD_cons_succ, Int.tdiv_eq_ediv_of_nonneg, Int.tmod_eq_emod_of_nonneg, wrap64] <;> omega))) (congr (congrArg _ (congrArg b8 (by simp (disch := omega) only [List.getD_cons_zero, List.getD_cons_succ, Int.tdiv_eq_ediv_of_nonneg, Int.tmod_eq_emod_of_nonneg, wrap64] <;> omega))) (congrArg (fun x => [b8 x]) (by simp (disch := omega) only [List.getD_cons_zero, List.getD_cons_succ, Int.tdiv_eq_ediv_of_nonneg, Int.tmod_eq_emod_of_nonneg, wrap64] <;> omega)))
  · show [b8 _, b8 _, b8 _, b8 _] = _
    exact congr (congrArg _ (congrArg b8 (by simp (disch := omega) only [List.getD_cons_zero, List.getD_cons_succ, Int.tdiv_eq_ediv_of_nonneg, Int.tmod_eq_emod_of_nonneg, wrap64] <;> omega))) (congr (congrArg _ (congrArg b8 (by simp (disch := omega) only [List.getD_cons_zero, List.getD_cons_succ, Int.tdiv_eq_ediv_of_nonneg, Int.tmod_eq_emod_of_nonneg, wrap64] <;> omega))) (congr (congrArg _ (congrArg b8 (by simp (disch := omega) only [List.getD_cons_zero, List.getD_cons_succ, Int.tdiv_eq_ediv_of_nonneg, Int.tmod_eq_emod_of_nonneg, wrap64] <;> omega))) (congrArg (fun x => [b8 x]) (by simp (disch := omega) only [List.getD_cons_zero, List.getD_cons_succ, Int.tdiv_eq_ediv_of_nonneg, Int.tmod_eq_emod_of_nonneg, wrap64] <;> omega))))
end Go.AW
/- A rune out of bytes: what the functions compute. -/
set_option linter.unusedVariables false
set_option linter.unusedSimpArgs false
namespace Go.AW
open Go.Proofs
set_option maxRecDepth 100000
/-- How many bytes a first byte asks for. -/
def needB (b : Int) : Int := if b < 128 then 1 else if b < 192 ∨ 248 ≤ b then 0 else if b < 224 then 2 else if b < 240 then 3 else 4
theorem con_l1Need (b r : Int) (hb : 0 ≤ b ∧ b ≤ 255) (hr : r = needB b) : PRet Try.prog 161 [AK .u8 b] [RI r] [] := by
  refine pret_of_awp (fn := Try.f161) (c := bodyOf Try.f161) envOk (by kernel_rfl) (by kernel_rfl) (by kernel_rfl) (by kernel_rfl) rfl (by kernel_rfl) (by kernel_rfl) ?_
  intro w0 mine D C L hD hC hL
  ((try (conv => cbv)); repeat' (first | (with_reducible exact mK hD) | (with_reducible refine mJ hL ?_; try (conv => cbv)) | (with_reducible refine mS hD ?_; try (conv => cbv)) | (with_reducible refine mT hD ?_; try (conv => cbv)) | (with_reducible refine mF hD ?_; try (conv => cbv)) | (with_reducible refine mB hD (fun _ => ?_) (fun _ => ?_) <;> try (conv => cbv)) | (with_reducible exact True.intro) | (with_reducible refine And.intro ?_ ?_)))
  all_goals ((subst hD; (try simp only [nc] at *); (try simp only [Int.ofNat_eq_natCast] at *); (try simp (disch := omega) only [std, wrap64, Int.toNat_natCast, Nat.succ_eq_add_one, Int.natCast_add, Int.natCast_one, decide_eq_true_eq, decide_eq_false_iff_not, Int.not_lt, Int.not_le, Nat.not_lt, Nat.not_le, beq_iff_eq, beq_eq_false_iff_ne, Bool.not_eq_true', Bool.not_eq_false', ne_eq] at *)); subst hr; refine int_eq ?_; unfold needB; omega)
/-- What is shown for a rune. -/
def shownR (r : Int) : Int := if validR r = true ∧ 32 ≤ r ∧ ¬ (127 ≤ r ∧ r ≤ 159) then r else 65533
theorem con_l1Shown (r s : Int) (hs : s = shownR r) : PRet Try.prog 152 [AI r] [RI s] [] := by
  refine pret_of_awp (fn := Try.f152) (c := bodyOf Try.f152) envOk (by kernel_rfl) (by kernel_rfl) (by kernel_rfl) (by kernel_rfl) rfl (by kernel_rfl) (by kernel_rfl) ?_
  intro w0 mine D C L hD hC hL
  obtain ⟨b, hb⟩ := opq (validR r)
  ((try (conv => cbv)); repeat' (first | (with_reducible exact mK hD) | (with_reducible refine mJ hL ?_; try (conv => cbv)) | (with_reducible refine mS hD ?_; try (conv => cbv)) | (with_reducible refine mT hD ?_; try (conv => cbv)) | (with_reducible refine mF hD ?_; try (conv => cbv)) | (with_reducible refine mB hD (fun _ => ?_) (fun _ => ?_) <;> try (conv => cbv)) | (with_reducible exact True.intro) | (with_reducible refine And.intro ?_ ?_)))
  refine call_of hD hC (con_l1Valid r b hb) ?_
  ((try (conv => cbv)); repeat' (first | (with_reducible exact mK hD) | (with_reducible refine mJ hL ?_; try (conv => cbv)) | (with_reducible refine mS hD ?_; try (conv => cbv)) | (with_reducible refine mT hD ?_; try (conv => cbv)) | (with_reducible refine mF hD ?_; try (conv => cbv)) | (with_reducible refine mB hD (fun _ => ?_) (fun _ => ?_) <;> try (conv => cbv)) | (with_reducible exact True.intro) | (with_reducible refine And.intro ?_ ?_)))
  all_goals ((subst hD; (try simp only [nc] at *); (try simp only [Int.ofNat_eq_natCast] at *); (try simp (disch := omega) only [std, wrap64, Int.toNat_natCast, Nat.succ_eq_add_one, Int.natCast_add, Int.natCast_one, decide_eq_true_eq, decide_eq_false_iff_not, Int.not_lt, Int.not_le, Nat.not_lt, Nat.not_le, beq_iff_eq, beq_eq_false_iff_ne, Bool.not_eq_true', Bool.not_eq_false', ne_eq] at *)); subst hs; refine int_eq ?_; unfold shownR; rw [← hb]; simp_all <;> omega)
theorem con_ValidRune (r : Int) (b : Bool) (hb : b = validR r) : PRet Try.prog 163 [AK .i32 r] [RB b] [] := by
  refine pret_of_awp (fn := Try.f163) (c := bodyOf Try.f163) envOk (by kernel_rfl) (by kernel_rfl) (by kernel_rfl) (by kernel_rfl) rfl (by kernel_rfl) (by kernel_rfl) ?_
  intro w0 mine D C L hD hC hL
  ((try (conv => cbv)); repeat' (first | (with_reducible exact mK hD) | (with_reducible refine mJ hL ?_; try (conv => cbv)) | (with_reducible refine mS hD ?_; try (conv => cbv)) | (with_reducible refine mT hD ?_; try (conv => cbv)) | (with_reducible refine mF hD ?_; try (conv => cbv)) | (with_reducible refine mB hD (fun _ => ?_) (fun _ => ?_) <;> try (conv => cbv)) | (with_reducible exact True.intro) | (with_reducible refine And.intro ?_ ?_)))
  all_goals (subst hb; refine congrArg Value.bool ?_; (subst hD; (try simp only [nc] at *); (try simp only [Int.ofNat_eq_natCast] at *); (try simp (disch := omega) only [std, wrap64, Int.toNat_natCast, Nat.succ_eq_add_one, Int.natCast_add, Int.natCast_one, decide_eq_true_eq, decide_eq_false_iff_not, Int.not_lt, Int.not_le, Nat.not_lt, Nat.not_le, beq_iff_eq, beq_eq_false_iff_ne, Bool.not_eq_true', Bool.not_eq_false', ne_eq] at *)); unfold validR; first | (rw [eq_comm, Bool.eq_iff_iff]; simp; omega) | (rw [Bool.eq_iff_iff]; simp; omega))
theorem con_shown (r s : Int) (hs : s = shownR r) : PRet Try.prog 155 [AK .i32 r] [RK .i32 s] [] := by
  refine pret_of_awp (fn := Try.f155) (c := bodyOf Try.f155) envOk (by kernel_rfl) (by kernel_rfl) (by kernel_rfl) (by kernel_rfl) rfl (by kernel_rfl) (by kernel_rfl) ?_
  intro w0 mine D C L hD hC hL
  obtain ⟨b, hb⟩ := opq (validR r)
  ((try (conv => cbv)); repeat' (first | (with_reducible exact mK hD) | (with_reducible refine mJ hL ?_; try (conv => cbv)) | (with_reducible refine mS hD ?_; try (conv => cbv)) | (with_reducible refine mT hD ?_; try (conv => cbv)) | (with_reducible refine mF hD ?_; try (conv => cbv)) | (with_reducible refine mB hD (fun _ => ?_) (fun _ => ?_) <;> try (conv => cbv)) | (with_reducible exact True.intro) | (with_reducible refine And.intro ?_ ?_)))
  all_goals try (refine call_of hD hC (con_ValidRune r b hb) ?_; ((try (conv => cbv)); repeat' (first | (with_reducible exact mK hD) | (with_reducible refine mJ hL ?_; try (conv => cbv)) | (with_reducible refine mS hD ?_; try (conv => cbv)) | (with_reducible refine mT hD ?_; try (conv => cbv)) | (with_reducible refine mF hD ?_; try (conv => cbv)) | (with_reducible refine mB hD (fun _ => ?_) (fun _ => ?_) <;> try (conv => cbv)) | (with_reducible exact True.intro) | (with_reducible refine And.intro ?_ ?_))))
  all_goals ((subst hD; (try simp only [nc] at *); (try simp only [Int.ofNat_eq_natCast] at *); (try simp (disch := omega) only [std, wrap64, Int.toNat_natCast, Nat.succ_eq_add_one, Int.natCast_add, Int.natCast_one, decide_eq_true_eq, decide_eq_false_iff_not, Int.not_lt, Int.not_le, Nat.not_lt, Nat.not_le, beq_iff_eq, beq_eq_false_iff_ne, Bool.not_eq_true', Bool.not_eq_false', ne_eq] at *)); subst hs; refine int_eq ?_; unfold shownR; rw [← hb]; simp_all <;> omega)
end Go.AW
/- A rune out of bytes: its value. -/
set_option linter.unusedVariables false
set_option linter.unusedSimpArgs false
namespace Go.AW
open Go.Proofs
set_option maxRecDepth 100000
def ContB (B : Nat → Int) (i d : Nat) : Prop := ∀ k, 1 ≤ k → k < d → 128 ≤ B (i + k) ∧ B (i + k) ≤ 191
def valM (B : Nat → Int) (i : Nat) (m0 : Int) : Nat → Int
  | 0 => m0
  | k + 1 => valM B i m0 k * 64 + B (i + (k + 1)) - 128
def headB (b : Int) (d : Nat) : Int := match d with
  | 2 => b % 32
  | 3 => b % 16
  | 4 => b % 8
  | _ => b
theorem con_l1Value (d : Nat) (hd : d = 1 ∨ d = 2 ∨ d = 3 ∨ d = 4) (n : Nat) (B : Nat → Int) (i : Nat) (r : Int) (hB : ∀ j, j < n → 0 ≤ B j ∧ B j ≤ 255) (hi : i + d ≤ n) (hn : n ≤ 1099511627776)
    (hr1 : ContB B i d → r = valM B i (headB (B i) d) (d - 1)) (hr2 : ¬ ContB B i d → r = -1) :
    PRet Try.prog 162 [.r (.c (dI .u8 n B)), AI i, AI d] [RI r] [] := by
  refine pret_of_awp (fn := Try.f162) (c := bodyOf Try.f162) envOk (by kernel_rfl) (by kernel_rfl) (by kernel_rfl) (by kernel_rfl) rfl (by kernel_rfl) (by kernel_rfl) ?_
  intro w0 mine D C L hD hC hL
  obtain ⟨M, hM⟩ : ∃ M : Nat → Int, ∀ k, M k = valM B i (headB (B i) d) k := ⟨_, fun _ => rfl⟩
  obtain ⟨I, hI⟩ : ∃ I : Nat → Int, ∀ k, I k = (k : Int) + 1 := ⟨_, fun _ => rfl⟩
  have hI0 : I 0 = 1 := by rw [hI]; rfl
  have hM0 : M 0 = headB (B i) d := by rw [hM]; rfl
  have hMs : ∀ k, M (k + 1) = M k * 64 + B (i + (k + 1)) - 128 := fun k => by rw [hM, hM]; rfl
  have hb0 := hB i (by omega)
  have hdv : d = 1 ∧ headB (B i) d = B i ∨ d = 2 ∧ headB (B i) d = B i % 32 ∨ d = 3 ∧ headB (B i) d = B i % 16 ∨ d = 4 ∧ headB (B i) d = B i % 8 := by
    rcases hd with rfl | rfl | rfl | rfl
    · exact .inl ⟨rfl, rfl⟩
    · exact .inr (.inl ⟨rfl, rfl⟩)
    · exact .inr (.inr (.inl ⟨rfl, rfl⟩))
    · exact .inr (.inr (.inr ⟨rfl, rfl⟩))
  have hnth : (d = 1 → ([0, 0, 32, 16, 8] : List Int).getD d 0 = 0) ∧ (d = 2 → ([0, 0, 32, 16, 8] : List Int).getD d 0 = 32) ∧ (d = 3 → ([0, 0, 32, 16, 8] : List Int).getD d 0 = 16) ∧ (d = 4 → ([0, 0, 32, 16, 8] : List Int).getD d 0 = 8) := by
    refine ⟨?_, ?_, ?_, ?_⟩ <;> (intro h; subst h; rfl)
  have hrem : ∀ x : Int, 0 ≤ x → ∀ y, x.tmod y = x % y := fun x h y => Int.tmod_eq_emod_of_nonneg h
  -- the loop, from either side
  have hbd : ∀ k, k < 4 → (∀ j, 1 ≤ j → j ≤ k → 128 ≤ B (i + j) ∧ B (i + j) ≤ 191) → 0 ≤ M k ∧ M k ≤ 67108863 := by
    intro k hk hc
    have c1 := fun h : 1 ≤ k => hc 1 (by omega) h
    have c2 := fun h : 2 ≤ k => hc 2 (by omega) h
    have c3 := fun h : 3 ≤ k => hc 3 (by omega) h
    have m0 : 0 ≤ M 0 ∧ M 0 ≤ 255 := by rw [hM0]; omega
    have m1 := hMs 0
    have m2 := hMs 1
    have m3 := hMs 2
    simp only [Nat.zero_add, Nat.reduceAdd] at m1 m2 m3
    obtain rfl | rfl | rfl | rfl : k = 0 ∨ k = 1 ∨ k = 2 ∨ k = 3 := by omega
    all_goals simp at c1 c2 c3
    all_goals omega
  ((try (conv => cbv)); repeat' (first | (with_reducible exact mK hD) | (with_reducible refine mJ hL ?_; try (conv => cbv)) | (with_reducible refine mS hD ?_; try (conv => cbv)) | (with_reducible refine mT hD ?_; try (conv => cbv)) | (with_reducible refine mF hD ?_; try (conv => cbv)) | (with_reducible refine mB hD (fun _ => ?_) (fun _ => ?_) <;> try (conv => cbv)) | (with_reducible exact True.intro) | (with_reducible refine And.intro ?_ ?_)))
  all_goals try (first | exact trivial | assumption | rfl | exact DEq.rfl' _ | ((subst hD; (try simp only [nc] at *); (try simp only [Int.ofNat_eq_natCast] at *); (try simp (disch := omega) only [std, wrap64, Int.toNat_natCast, Nat.succ_eq_add_one, Int.natCast_add, Int.natCast_one, decide_eq_true_eq, decide_eq_false_iff_not, Int.not_lt, Int.not_le, Nat.not_lt, Nat.not_le, beq_iff_eq, beq_eq_false_iff_ne, Bool.not_eq_true', Bool.not_eq_false', ne_eq] at *)) <;> first | omega | exact int_eq (by omega) | assumption | rfl | exact DEq.rfl' _))
  all_goals refine loop_nat hL 3 (fun k => [(7, VI (M k)), (8, VI (I k))]) (fun k => []) (fun k => k + 1 ≤ d ∧ ∀ j, 1 ≤ j → j ≤ k → 128 ≤ B (i + j) ∧ B (i + j) ≤ 191) ⟨by omega, fun j h1 h2 => by omega⟩ ?_ ?_
  · ((try (conv => cbv)); repeat' (first | (with_reducible exact mK hD) | (with_reducible refine mJ hL ?_; try (conv => cbv)) | (with_reducible refine mS hD ?_; try (conv => cbv)) | (with_reducible refine mT hD ?_; try (conv => cbv)) | (with_reducible refine mF hD ?_; try (conv => cbv)) | (with_reducible refine mB hD (fun _ => ?_) (fun _ => ?_) <;> try (conv => cbv)) | (with_reducible exact True.intro) | (with_reducible refine And.intro ?_ ?_)))
    all_goals try (first | exact trivial | assumption | rfl | exact DEq.rfl' _ | ((subst hD; (try simp only [nc] at *); (try simp only [Int.ofNat_eq_natCast] at *); (try simp (disch := omega) only [std, wrap64, Int.toNat_natCast, Nat.succ_eq_add_one, Int.natCast_add, Int.natCast_one, decide_eq_true_eq, decide_eq_false_iff_not, Int.not_lt, Int.not_le, Nat.not_lt, Nat.not_le, beq_iff_eq, beq_eq_false_iff_ne, Bool.not_eq_true', Bool.not_eq_false', ne_eq, hI, hrem] at *)) <;> first | omega | exact int_eq (by omega) | assumption | rfl | exact DEq.rfl' _))
    (subst hD; (try simp only [nc] at *); (try simp only [Int.ofNat_eq_natCast] at *); (try simp (disch := omega) only [std, wrap64, Int.toNat_natCast, Nat.succ_eq_add_one, Int.natCast_add, Int.natCast_one, decide_eq_true_eq, decide_eq_false_iff_not, Int.not_lt, Int.not_le, Nat.not_lt, Nat.not_le, beq_iff_eq, beq_eq_false_iff_ne, Bool.not_eq_true', Bool.not_eq_false', ne_eq, hI, hrem] at *))
    refine int_eq ?_
    have e : B i % ([0, 0, 32, 16, 8] : List Int).getD d 0 = M 0 := by
      rw [hM0]
      rcases hdv with h | h | h | h
      · omega
      · rw [hnth.2.1 h.1, h.2]
      · rw [hnth.2.2.1 h.1, h.2]
      · rw [hnth.2.2.2 h.1, h.2]
    rw [← e]
  · intro k hk
    have hM1 := hbd k (by omega) hk.2.2
    have hMs1 := hMs k
    have ei : (((i : Int) + ((k : Int) + 1)).toNat) = i + (k + 1) := by omega
    have hbk := fun h : i + (k + 1) < n => hB (i + (k + 1)) h
    ((try (conv => cbv)); repeat' (first | (with_reducible exact mK hD) | (with_reducible refine mJ hL ?_; try (conv => cbv)) | (with_reducible refine mS hD ?_; try (conv => cbv)) | (with_reducible refine mT hD ?_; try (conv => cbv)) | (with_reducible refine mF hD ?_; try (conv => cbv)) | (with_reducible refine mB hD (fun _ => ?_) (fun _ => ?_) <;> try (conv => cbv)) | (with_reducible exact True.intro) | (with_reducible refine And.intro ?_ ?_)))
    all_goals try (first | exact trivial | assumption | rfl | exact DEq.rfl' _ | ((subst hD; (try simp only [nc] at *); (try simp only [Int.ofNat_eq_natCast] at *); (try simp (disch := omega) only [std, wrap64, Int.toNat_natCast, Nat.succ_eq_add_one, Int.natCast_add, Int.natCast_one, decide_eq_true_eq, decide_eq_false_iff_not, Int.not_lt, Int.not_le, Nat.not_lt, Nat.not_le, beq_iff_eq, beq_eq_false_iff_ne, Bool.not_eq_true', Bool.not_eq_false', ne_eq, hI, ei] at *)) <;> first | omega | exact int_eq (by omega) | assumption | rfl | exact DEq.rfl' _))
    iterate 2
      · (subst hD; (try simp only [nc] at *); (try simp only [Int.ofNat_eq_natCast] at *); (try simp (disch := omega) only [std, wrap64, Int.toNat_natCast, Nat.succ_eq_add_one, Int.natCast_add, Int.natCast_one, decide_eq_true_eq, decide_eq_false_iff_not, Int.not_lt, Int.not_le, Nat.not_lt, Nat.not_le, beq_iff_eq, beq_eq_false_iff_ne, Bool.not_eq_true', Bool.not_eq_false', ne_eq, hI, ei] at *))
        refine int_eq (hr2 fun hc => ?_).symm
        have := hc (k + 1) (by omega) (by omega)
        omega
    · have hk1 : k + 1 < d ∧ 128 ≤ B (i + (k + 1)) ∧ B (i + (k + 1)) ≤ 191 := by
        (subst hD; (try simp only [nc] at *); (try simp only [Int.ofNat_eq_natCast] at *); (try simp (disch := omega) only [std, wrap64, Int.toNat_natCast, Nat.succ_eq_add_one, Int.natCast_add, Int.natCast_one, decide_eq_true_eq, decide_eq_false_iff_not, Int.not_lt, Int.not_le, Nat.not_lt, Nat.not_le, beq_iff_eq, beq_eq_false_iff_ne, Bool.not_eq_true', Bool.not_eq_false', ne_eq, hI, ei] at *))
        omega
      have hM2 := hbd (k + 1) (by omega) (fun j h1 h2 => by
        rcases Nat.lt_or_ge k j with h3 | h3
        · rw [show j = k + 1 by omega]; exact hk1.2
        · exact hk.2.2 j h1 h3)
      refine ⟨k + 1, ⟨by omega, by omega, fun j h1 h2 => ?_⟩, ssem_of ?_, ?_⟩
      · rcases Nat.lt_or_ge k j with h3 | h3
        · rw [show j = k + 1 by omega]; exact hk1.2
        · exact hk.2.2 j h1 h3
      · ((try (conv => cbv)); repeat' (first | (with_reducible exact mK hD) | (with_reducible refine mJ hL ?_; try (conv => cbv)) | (with_reducible refine mS hD ?_; try (conv => cbv)) | (with_reducible refine mT hD ?_; try (conv => cbv)) | (with_reducible refine mF hD ?_; try (conv => cbv)) | (with_reducible refine mB hD (fun _ => ?_) (fun _ => ?_) <;> try (conv => cbv)) | (with_reducible exact True.intro) | (with_reducible refine And.intro ?_ ?_)))
        all_goals try (first | exact trivial | assumption | rfl | exact DEq.rfl' _ | ((subst hD; (try simp only [nc] at *); (try simp only [Int.ofNat_eq_natCast] at *); (try simp (disch := omega) only [std, wrap64, Int.toNat_natCast, Nat.succ_eq_add_one, Int.natCast_add, Int.natCast_one, decide_eq_true_eq, decide_eq_false_iff_not, Int.not_lt, Int.not_le, Nat.not_lt, Nat.not_le, beq_iff_eq, beq_eq_false_iff_ne, Bool.not_eq_true', Bool.not_eq_false', ne_eq, hI, ei] at *)) <;> first | omega | exact int_eq (by omega) | assumption | rfl | exact DEq.rfl' _))
      · omega
    · have hk1 : k + 1 = d := by
        (subst hD; (try simp only [nc] at *); (try simp only [Int.ofNat_eq_natCast] at *); (try simp (disch := omega) only [std, wrap64, Int.toNat_natCast, Nat.succ_eq_add_one, Int.natCast_add, Int.natCast_one, decide_eq_true_eq, decide_eq_false_iff_not, Int.not_lt, Int.not_le, Nat.not_lt, Nat.not_le, beq_iff_eq, beq_eq_false_iff_ne, Bool.not_eq_true', Bool.not_eq_false', ne_eq, hI, ei] at *))
        omega
      have hc : ContB B i d := fun j h1 h2 => hk.2.2 j h1 (by omega)
      refine int_eq ?_
      rw [hr1 hc, hM, ← hk1]
      rfl
  · ((try (conv => cbv)); repeat' (first | (with_reducible exact mK hD) | (with_reducible refine mJ hL ?_; try (conv => cbv)) | (with_reducible refine mS hD ?_; try (conv => cbv)) | (with_reducible refine mT hD ?_; try (conv => cbv)) | (with_reducible refine mF hD ?_; try (conv => cbv)) | (with_reducible refine mB hD (fun _ => ?_) (fun _ => ?_) <;> try (conv => cbv)) | (with_reducible exact True.intro) | (with_reducible refine And.intro ?_ ?_)))
    all_goals try (first | exact trivial | assumption | rfl | exact DEq.rfl' _ | ((subst hD; (try simp only [nc] at *); (try simp only [Int.ofNat_eq_natCast] at *); (try simp (disch := omega) only [std, wrap64, Int.toNat_natCast, Nat.succ_eq_add_one, Int.natCast_add, Int.natCast_one, decide_eq_true_eq, decide_eq_false_iff_not, Int.not_lt, Int.not_le, Nat.not_lt, Nat.not_le, beq_iff_eq, beq_eq_false_iff_ne, Bool.not_eq_true', Bool.not_eq_false', ne_eq, hI] at *)) <;> first | omega | exact int_eq (by omega) | assumption | rfl | exact DEq.rfl' _))
  · intro k hk
    have hM1 := hbd k (by omega) hk.2.2
    have hMs1 := hMs k
    have ei : (((i : Int) + ((k : Int) + 1)).toNat) = i + (k + 1) := by omega
    have hbk := fun h : i + (k + 1) < n => hB (i + (k + 1)) h
    ((try (conv => cbv)); repeat' (first | (with_reducible exact mK hD) | (with_reducible refine mJ hL ?_; try (conv => cbv)) | (with_reducible refine mS hD ?_; try (conv => cbv)) | (with_reducible refine mT hD ?_; try (conv => cbv)) | (with_reducible refine mF hD ?_; try (conv => cbv)) | (with_reducible refine mB hD (fun _ => ?_) (fun _ => ?_) <;> try (conv => cbv)) | (with_reducible exact True.intro) | (with_reducible refine And.intro ?_ ?_)))
    all_goals try (first | exact trivial | assumption | rfl | exact DEq.rfl' _ | ((subst hD; (try simp only [nc] at *); (try simp only [Int.ofNat_eq_natCast] at *); (try simp (disch := omega) only [std, wrap64, Int.toNat_natCast, Nat.succ_eq_add_one, Int.natCast_add, Int.natCast_one, decide_eq_true_eq, decide_eq_false_iff_not, Int.not_lt, Int.not_le, Nat.not_lt, Nat.not_le, beq_iff_eq, beq_eq_false_iff_ne, Bool.not_eq_true', Bool.not_eq_false', ne_eq, hI, ei] at *)) <;> first | omega | exact int_eq (by omega) | assumption | rfl | exact DEq.rfl' _))
    · have hk1 : k + 1 = d := by
        (subst hD; (try simp only [nc] at *); (try simp only [Int.ofNat_eq_natCast] at *); (try simp (disch := omega) only [std, wrap64, Int.toNat_natCast, Nat.succ_eq_add_one, Int.natCast_add, Int.natCast_one, decide_eq_true_eq, decide_eq_false_iff_not, Int.not_lt, Int.not_le, Nat.not_lt, Nat.not_le, beq_iff_eq, beq_eq_false_iff_ne, Bool.not_eq_true', Bool.not_eq_false', ne_eq, hI, ei] at *))
        omega
      have hc : ContB B i d := fun j h1 h2 => hk.2.2 j h1 (by omega)
      refine int_eq ?_
      rw [hr1 hc, hM, ← hk1]
      rfl
end Go.AW
/- A rune out of bytes, in plain words; the model's decoder is the same. -/
set_option linter.unusedVariables false
set_option linter.unusedSimpArgs false
namespace Go.AW
set_option maxRecDepth 100000
/-- A byte that goes on. -/
def CB (B : Nat → Int) (j : Nat) : Prop := 128 ≤ B j ∧ B j ≤ 191
def v2 (B : Nat → Int) (i : Nat) : Int := (B i - 192) * 64 + (B (i + 1) - 128)
def v3 (B : Nat → Int) (i : Nat) : Int := (B i - 224) * 4096 + (B (i + 1) - 128) * 64 + (B (i + 2) - 128)
def v4 (B : Nat → Int) (i : Nat) : Int := (B i - 240) * 262144 + (B (i + 1) - 128) * 4096 + (B (i + 2) - 128) * 64 + (B (i + 3) - 128)
/-- The rune at a place and how many bytes it takes, told as cases. -/
inductive RuneB (B : Nat → Int) (n i : Nat) : Int → Nat → Prop where
  | r1 (h : B i < 128) : RuneB B n i (B i) 1
  | r2 (h : 192 ≤ B i ∧ B i < 224) (hn : i + 1 < n) (h1 : CB B (i + 1)) (hm : 128 ≤ v2 B i) : RuneB B n i (v2 B i) 2
  | r3 (h : 224 ≤ B i ∧ B i < 240) (hn : i + 2 < n) (h1 : CB B (i + 1)) (h2 : CB B (i + 2)) (hm : 2048 ≤ v3 B i) (hv : v3 B i < 55296 ∨ 57343 < v3 B i) : RuneB B n i (v3 B i) 3
  | r4 (h : 240 ≤ B i ∧ B i < 248) (hn : i + 3 < n) (h1 : CB B (i + 1)) (h2 : CB B (i + 2)) (h3 : CB B (i + 3)) (hm : 65536 ≤ v4 B i) (hv : v4 B i ≤ 1114111) : RuneB B n i (v4 B i) 4
  | no (h1 : 128 ≤ B i) (h2 : 192 ≤ B i → B i < 224 → i + 1 < n → CB B (i + 1) → v2 B i < 128)
      (h3 : 224 ≤ B i → B i < 240 → i + 2 < n → CB B (i + 1) → CB B (i + 2) → 2048 ≤ v3 B i → 55296 ≤ v3 B i ∧ v3 B i ≤ 57343)
      (h4 : 240 ≤ B i → B i < 248 → i + 3 < n → CB B (i + 1) → CB B (i + 2) → CB B (i + 3) → 65536 ≤ v4 B i → 1114111 < v4 B i) : RuneB B n i 65533 1
theorem RuneB.uniq {B : Nat → Int} {n i : Nat} {r r' : Int} {d d' : Nat} (h : RuneB B n i r d) (h' : RuneB B n i r' d') : r = r' ∧ d = d' := by
  cases h <;> cases h' <;> first | exact ⟨rfl, rfl⟩ | (exfalso; unfold CB at *; omega) | (exfalso; simp_all; unfold CB at *; omega)
theorem RuneB.width {B : Nat → Int} {n i : Nat} {r : Int} {d : Nat} (hi : i < n) (h : RuneB B n i r d) : 1 ≤ d ∧ d ≤ 4 ∧ i + d ≤ n := by
  cases h <;> omega
theorem RuneB.range {B : Nat → Int} {n i : Nat} {r : Int} {d : Nat} (hB : 0 ≤ B i ∧ B i ≤ 255) (h : RuneB B n i r d) : 0 ≤ r ∧ r ≤ 1114111 := by
  cases h <;> first | omega | (unfold CB v2 at *; omega) | (unfold CB v3 at *; omega) | (unfold CB v4 at *; omega)
theorem get_B {l : List UInt8} {n : Nat} {B : Nat → Int} (h : IsB l n B) {j : Nat} (hj : j < n) : (((⟨l.toArray⟩ : ByteArray).get! j).toNat : Int) = B j := by
  have hs : j < l.length := by rw [← h.1]; exact hj
  rw [h.2 j hj]
  show (((l.toArray)[j]!).toNat : Int) = _
  simp [List.getD_eq_getElem?_getD, hs]
theorem decode_as (s : ByteArray) (i : Nat) : ∃ a : Nat → Nat, (∀ k, a k = (s.get! (i + k)).toNat) ∧ Utf8.decode s i =
    if a 0 < 128 then (a 0, 1)
    else if a 0 / 32 == 6 && (i + 1 < s.size && a 1 / 64 == 2) then if (a 0 % 32) * 64 + a 1 % 64 ≥ 128 then ((a 0 % 32) * 64 + a 1 % 64, 2) else (65533, 1)
    else if a 0 / 16 == 14 && (i + 1 < s.size && a 1 / 64 == 2) && (i + 2 < s.size && a 2 / 64 == 2) then
      if (a 0 % 16) * 4096 + (a 1 % 64) * 64 + a 2 % 64 ≥ 2048 && Utf8.valid ((a 0 % 16) * 4096 + (a 1 % 64) * 64 + a 2 % 64 : Nat) then ((a 0 % 16) * 4096 + (a 1 % 64) * 64 + a 2 % 64, 3) else (65533, 1)
    else if a 0 / 8 == 30 && (i + 1 < s.size && a 1 / 64 == 2) && (i + 2 < s.size && a 2 / 64 == 2) && (i + 3 < s.size && a 3 / 64 == 2) then
      if (a 0 % 8) * 262144 + (a 1 % 64) * 4096 + (a 2 % 64) * 64 + a 3 % 64 ≥ 65536 && Utf8.valid ((a 0 % 8) * 262144 + (a 1 % 64) * 4096 + (a 2 % 64) * 64 + a 3 % 64 : Nat) then ((a 0 % 8) * 262144 + (a 1 % 64) * 4096 + (a 2 % 64) * 64 + a 3 % 64, 4) else (65533, 1)
    else (65533, 1) := ⟨fun k => (s.get! (i + k)).toNat, fun _ => rfl, rfl⟩
theorem decode_B {l : List UInt8} {n : Nat} {B : Nat → Int} (h : IsB l n B) {i : Nat} (hi : i < n) : RuneB B n i ((Utf8.decode ⟨l.toArray⟩ i).1 : Nat) (Utf8.decode ⟨l.toArray⟩ i).2 := by
  have hsz : (⟨l.toArray⟩ : ByteArray).size = n := by rw [h.1]; simp [ByteArray.size]
  obtain ⟨a, ha, hd⟩ := decode_as ⟨l.toArray⟩ i
  have gk : ∀ k, i + k < n → (a k : Int) = B (i + k) := fun k hk => by rw [ha]; exact get_B h hk
  have g0 : (a 0 : Int) = B i := gk 0 hi
  have g1 := gk 1
  have g2 := gk 2
  have g3 := gk 3
  have k1 : i + 1 < n → 0 ≤ B (i + 1) ∧ B (i + 1) ≤ 255 := fun hj => h.range _ hj
  have k2 : i + 2 < n → 0 ≤ B (i + 2) ∧ B (i + 2) ≤ 255 := fun hj => h.range _ hj
  have k3 : i + 3 < n → 0 ≤ B (i + 3) ∧ B (i + 3) ≤ 255 := fun hj => h.range _ hj
  have k0 := h.range i hi
  rw [hd, hsz]
  clear hd ha gk
  generalize a 0 = x0 at *
  generalize a 1 = x1 at *
  generalize a 2 = x2 at *
  generalize a 3 = x3 at *
  simp only [Utf8.runeError, valid_eq, validR, Bool.and_eq_true, Bool.not_eq_true', beq_iff_eq, decide_eq_true_eq, Bool.and_eq_false_iff, decide_eq_false_iff_not]
  split
  · rw [g0]; exact .r1 (by omega)
  rename_i n0
  split
  · rename_i c
    have e := g1 c.2.1
    have hv : v2 B i = ((x0 % 32 * 64 + x1 % 64 : Nat) : Int) := by unfold v2; omega
    split
    · rw [← hv]; exact .r2 (by omega) c.2.1 (by unfold CB; omega) (by omega)
    · refine .no (by omega) (fun _ _ _ _ => by omega) (fun _ _ => by omega) (fun _ _ => by omega)
  rename_i n1
  split
  · rename_i c
    have e1 := g1 (by omega)
    have e2 := g2 c.2.1
    have hv : v3 B i = ((x0 % 16 * 4096 + x1 % 64 * 64 + x2 % 64 : Nat) : Int) := by unfold v3; omega
    split
    · rw [← hv]; exact .r3 (by omega) c.2.1 (by unfold CB; omega) (by unfold CB; omega) (by omega) (by omega)
    · refine .no (by omega) (fun _ _ => by omega) (fun _ _ _ _ _ _ => by omega) (fun _ _ => by omega)
  rename_i n2
  split
  · rename_i c
    have e1 := g1 (by omega)
    have e2 := g2 (by omega)
    have e3 := g3 c.2.1
    have hv : v4 B i = ((x0 % 8 * 262144 + x1 % 64 * 4096 + x2 % 64 * 64 + x3 % 64 : Nat) : Int) := by unfold v4; omega
    split
    · rw [← hv]; exact .r4 (by omega) c.2.1 (by unfold CB; omega) (by unfold CB; omega) (by unfold CB; omega) (by omega) (by omega)
    · refine .no (by omega) (fun _ _ => by omega) (fun _ _ => by omega) (fun _ _ _ _ _ _ _ => by omega)
  rename_i n3
  refine .no (by omega) (fun a b c d => ?_) (fun a b c d e => ?_) (fun a b c d e f => ?_)
  · have := g1 c; unfold CB at d; omega
  · have := g1 (by omega); have := g2 c; unfold CB at d e; omega
  · have := g1 (by omega); have := g2 (by omega); have := g3 c; unfold CB at d e f; omega
end Go.AW
/- A rune out of bytes: spec.l1Rune. -/
set_option linter.unusedVariables false
set_option linter.unusedSimpArgs false
namespace Go.AW
open Go.Proofs
set_option maxRecDepth 100000
theorem needB_cases (b : Int) (hb : 0 ≤ b ∧ b ≤ 255) : (needB b = 0 ∧ (128 ≤ b ∧ b < 192 ∨ 248 ≤ b)) ∨ (needB b = 1 ∧ b < 128) ∨ (needB b = 2 ∧ 192 ≤ b ∧ b < 224) ∨ (needB b = 3 ∧ 224 ≤ b ∧ b < 240) ∨ (needB b = 4 ∧ 240 ≤ b ∧ b < 248) := by
  unfold needB
  omega
def VC (B : Nat → Int) (i e : Nat) (v : Int) : Prop := (e = 1 ∧ v = B i) ∨ (e = 2 ∧ (CB B (i + 1) ∧ v = v2 B i ∨ ¬ CB B (i + 1) ∧ v = -1)) ∨ (e = 3 ∧ (CB B (i + 1) ∧ CB B (i + 2) ∧ v = v3 B i ∨ ¬ (CB B (i + 1) ∧ CB B (i + 2)) ∧ v = -1)) ∨
    (e = 4 ∧ (CB B (i + 1) ∧ CB B (i + 2) ∧ CB B (i + 3) ∧ v = v4 B i ∨ ¬ (CB B (i + 1) ∧ CB B (i + 2) ∧ CB B (i + 3)) ∧ v = -1))
theorem val_cases (B : Nat → Int) (i e : Nat) (v : Int) (h1 : ContB B i e → v = valM B i (headB (B i) e) (e - 1)) (h2 : ¬ ContB B i e → v = -1)
    (he : e = 1 ∧ 0 ≤ B i ∧ B i < 128 ∨ e = 2 ∧ 192 ≤ B i ∧ B i < 224 ∨ e = 3 ∧ 224 ≤ B i ∧ B i < 240 ∨ e = 4 ∧ 240 ≤ B i ∧ B i < 248) :
    VC B i e v := by
  unfold VC
  rcases he with ⟨rfl, he⟩ | ⟨rfl, he⟩ | ⟨rfl, he⟩ | ⟨rfl, he⟩
  · refine .inl ⟨rfl, ?_⟩
    exact h1 fun k a b => by omega
  · refine .inr (.inl ⟨rfl, ?_⟩)
    by_cases c : CB B (i + 1)
    · refine .inl ⟨c, ?_⟩
      rw [h1 fun k a b => by rw [show k = 1 by omega]; exact c]
      simp only [valM, headB, v2]; simp only [Nat.reduceSub, Nat.reduceAdd, valM]; omega
    · exact .inr ⟨c, h2 fun h => c (h 1 (by omega) (by omega))⟩
  · refine .inr (.inr (.inl ⟨rfl, ?_⟩))
    by_cases c : CB B (i + 1) ∧ CB B (i + 2)
    · refine .inl ⟨c.1, c.2, ?_⟩
      rw [h1 fun k a b => by obtain rfl | rfl : k = 1 ∨ k = 2 := by omega
                             · exact c.1
                             · exact c.2]
      simp only [valM, headB, v3]; simp only [Nat.reduceSub, Nat.reduceAdd, valM]; omega
    · exact .inr ⟨c, h2 fun h => c ⟨h 1 (by omega) (by omega), h 2 (by omega) (by omega)⟩⟩
  · refine .inr (.inr (.inr ⟨rfl, ?_⟩))
    by_cases c : CB B (i + 1) ∧ CB B (i + 2) ∧ CB B (i + 3)
    · refine .inl ⟨c.1, c.2.1, c.2.2, ?_⟩
      rw [h1 fun k a b => by obtain rfl | rfl | rfl : k = 1 ∨ k = 2 ∨ k = 3 := by omega
                             · exact c.1
                             · exact c.2.1
                             · exact c.2.2]
      simp only [valM, headB, v4]; simp only [Nat.reduceSub, Nat.reduceAdd, valM]; omega
    · exact .inr ⟨c, h2 fun h => c ⟨h 1 (by omega) (by omega), h 2 (by omega) (by omega), h 3 (by omega) (by omega)⟩⟩
abbrev HE (B : Nat → Int) (i e : Nat) : Prop := e = 1 ∧ 0 ≤ B i ∧ B i < 128 ∨ e = 2 ∧ 192 ≤ B i ∧ B i < 224 ∨ e = 3 ∧ 224 ≤ B i ∧ B i < 240 ∨ e = 4 ∧ 240 ≤ B i ∧ B i < 248
theorem valid_iff (v : Int) : validR v = true ↔ 0 ≤ v ∧ v ≤ 1114111 ∧ (v < 55296 ∨ 57343 < v) := by
  unfold validR; simp; omega
theorem rune_bad {B : Nat → Int} {n i e : Nat} {v : Int} (hv : VC B i e v) (he : HE B i e) (hb : validR v = false) : RuneB B n i 65533 1 := by
  have hb' : ¬ (0 ≤ v ∧ v ≤ 1114111 ∧ (v < 55296 ∨ 57343 < v)) := fun h => by rw [(valid_iff v).mpr h] at hb; cases hb
  rcases hv with ⟨rfl, hv⟩ | ⟨rfl, hv⟩ | ⟨rfl, hv⟩ | ⟨rfl, hv⟩
  · omega
  · refine .no (by omega) (fun a b c d => ?_) (fun a b => by omega) (fun a b => by omega)
    rcases hv with hv | hv
    · exfalso; unfold CB v2 at *; omega
    · exact absurd d hv.1
  · refine .no (by omega) (fun a b => by omega) (fun a b c d e f => ?_) (fun a b => by omega)
    rcases hv with hv | hv
    · unfold CB v3 at *; omega
    · exact absurd ⟨d, e⟩ hv.1
  · refine .no (by omega) (fun a b => by omega) (fun a b => by omega) (fun a b c d e f g => ?_)
    rcases hv with hv | hv
    · unfold CB v4 at *; omega
    · exact absurd ⟨d, e, f⟩ hv.1
abbrev rowL (B : Nat → Int) (i e : Nat) : List UInt8 := (List.range e).map fun j => b8 (B (i + j))
theorem rune_same {B : Nat → Int} {n i e : Nat} {v : Int} (hn : i + e ≤ n) (hv : VC B i e v) (he : HE B i e) (hb : validR v = true) : (enc v = rowL B i e ∧ RuneB B n i v e) ∨ (enc v ≠ rowL B i e ∧ RuneB B n i 65533 1) := by
  have hb' := (valid_iff v).mp hb
  rcases hv with ⟨rfl, hv⟩ | ⟨rfl, hv⟩ | ⟨rfl, hv⟩ | ⟨rfl, hv⟩
  · refine .inl ⟨?_, ?_⟩
    · rw [enc_1 (by omega), hv]; rfl
    · rw [hv]; exact .r1 (by omega)
  · rcases hv with hv | hv
    · rcases Int.lt_or_le v 128 with h | h
      · refine .inr ⟨fun h1 => ?_, .no (by omega) (fun a b c d => by omega) (fun a b => by omega) (fun a b => by omega)⟩
        have := congrArg List.length h1
        rw [enc_1 (by omega)] at this
        simp at this
      · refine .inl ⟨?_, ?_⟩
        · have e1 : 192 + v / 64 = B i ∧ 128 + v % 64 = B (i + 1) := by unfold CB v2 at *; omega
          rw [enc_2 (by unfold CB v2 at *; omega), e1.1, e1.2]; rfl
        · rw [hv.2]; exact .r2 (by omega) (by omega) hv.1 (by omega)
    · omega
  · rcases hv with hv | hv
    · rcases Int.lt_or_le v 2048 with h | h
      · refine .inr ⟨fun h1 => ?_, .no (by omega) (fun a b c d => by omega) (fun a b c d e f => by omega) (fun a b => by omega)⟩
        have := congrArg List.length h1
        rcases Int.lt_or_le v 128 with h2 | h2
        · rw [enc_1 (by omega)] at this
          simp at this
        · rw [enc_2 (by omega)] at this
          simp at this
      · refine .inl ⟨?_, ?_⟩
        · have e1 : 224 + v / 4096 = B i ∧ 128 + v / 64 % 64 = B (i + 1) ∧ 128 + v % 64 = B (i + 2) := by unfold CB v3 at *; omega
          rw [enc_3 hb (by unfold CB v3 at *; omega), e1.1, e1.2.1, e1.2.2]; rfl
        · rw [hv.2.2]; exact .r3 (by omega) (by omega) hv.1 hv.2.1 (by omega) (by omega)
    · omega
  · rcases hv with hv | hv
    · rcases Int.lt_or_le v 65536 with h | h
      · refine .inr ⟨fun h1 => ?_, .no (by omega) (fun a b c d => by omega) (fun a b c d e f => by omega) (fun a b c d e f g => by omega)⟩
        have := congrArg List.length h1
        rcases Int.lt_or_le v 128 with h2 | h2
        · rw [enc_1 (by omega)] at this
          simp at this
        rcases Int.lt_or_le v 2048 with h3 | h3
        · rw [enc_2 (by omega)] at this
          simp at this
        · rw [enc_3 hb (by omega)] at this
          simp at this
      · refine .inl ⟨?_, ?_⟩
        · have e1 : 240 + v / 262144 = B i ∧ 128 + v / 4096 % 64 = B (i + 1) ∧ 128 + v / 64 % 64 = B (i + 2) ∧ 128 + v % 64 = B (i + 3) := by unfold CB v4 at *; omega
          rw [enc_4 hb (by omega), e1.1, e1.2.1, e1.2.2.1, e1.2.2.2]; rfl
        · rw [hv.2.2.2]; exact .r4 (by omega) (by omega) hv.1 hv.2.1 hv.2.2.1 (by omega) (by omega)
    · omega
theorem row_str (B : Nat → Int) (i e : Nat) : (std.strF e (fun j => [.s (.int .u8 (B (i + j)))])).data.toList = rowL B i e := by
  simp only [std]
  rfl
theorem neS_row {B : Nat → Int} {i e m : Nat} {v : Int} {s : ByteArray} (hs : s = Utf8.encode v) (hm : m = e) : std.neS s (std.strF m (fun j => [.s (.int .u8 (B (std.addN (std.natI (Int.ofNat i)) j)))])) = !(enc v == rowL B i e) := by
  subst hs hm
  show (!((Utf8.encode v).toList == (std.strF m (fun j => [.s (.int .u8 (B (i + j)))])).toList)) = _
  rw [ByteArray.toList_eq, ByteArray.toList_eq, row_str]
  rfl
theorem span_i {i e : Nat} {q : Int} (h : (e : Int) = q) (hb : i ≤ 1099511627776) (he : e ≤ 4) : std.spanN (Int.ofNat i) (std.addI .i64 (Int.ofNat i) q) = e := by
  subst h
  simp only [std, Int.ofNat_eq_natCast]
  rw [wrap64 _ (by omega)]
  omega
theorem con_l1Rune (n : Nat) (B : Nat → Int) (i : Nat) (r : Int) (d : Nat) (hB : ∀ j, j < n → 0 ≤ B j ∧ B j ≤ 255) (hi : i < n) (hn : n ≤ 1099511627776) (hr : RuneB B n i r d) :
    PRet Try.prog 154 [.r (.c (dI .u8 n B)), AI i] [RI r, RI d] [] := by
  refine pret_of_awp (fn := Try.f154) (c := bodyOf Try.f154) envOk (by kernel_rfl) (by kernel_rfl) (by kernel_rfl) (by kernel_rfl) rfl (by kernel_rfl) (by kernel_rfl) ?_
  intro w0 mine D C L hD hC hL
  obtain ⟨q, hq⟩ := opq (needB (B i))
  have hqc := needB_cases (B i) (hB i hi)
  rw [← hq] at hqc
  ((try (conv => cbv)); repeat' (first | (with_reducible exact mK hD) | (with_reducible refine mJ hL ?_; try (conv => cbv)) | (with_reducible refine mS hD ?_; try (conv => cbv)) | (with_reducible refine mT hD ?_; try (conv => cbv)) | (with_reducible refine mF hD ?_; try (conv => cbv)) | (with_reducible refine mB hD (fun _ => ?_) (fun _ => ?_) <;> try (conv => cbv)) | (with_reducible exact True.intro) | (with_reducible refine And.intro ?_ ?_)))
  all_goals try (first | exact trivial | assumption | rfl | exact DEq.rfl' _ | ((subst hD; (try simp only [nc] at *); (try simp only [Int.ofNat_eq_natCast] at *); (try simp (disch := omega) only [std, wrap64, Int.toNat_natCast, Nat.succ_eq_add_one, Int.natCast_add, Int.natCast_one, decide_eq_true_eq, decide_eq_false_iff_not, Int.not_lt, Int.not_le, Nat.not_lt, Nat.not_le, beq_iff_eq, beq_eq_false_iff_ne, Bool.not_eq_true', Bool.not_eq_false', ne_eq] at *)) <;> first | omega | exact int_eq (by omega) | assumption | rfl | exact DEq.rfl' _))
  refine call_of hD hC (con_l1Need (B i) q (hB i hi) hq) ?_
  ((try (conv => cbv)); repeat' (first | (with_reducible exact mK hD) | (with_reducible refine mJ hL ?_; try (conv => cbv)) | (with_reducible refine mS hD ?_; try (conv => cbv)) | (with_reducible refine mT hD ?_; try (conv => cbv)) | (with_reducible refine mF hD ?_; try (conv => cbv)) | (with_reducible refine mB hD (fun _ => ?_) (fun _ => ?_) <;> try (conv => cbv)) | (with_reducible exact True.intro) | (with_reducible refine And.intro ?_ ?_)))
  all_goals try (first | exact trivial | assumption | rfl | exact DEq.rfl' _ | ((subst hD; (try simp only [nc] at *); (try simp only [Int.ofNat_eq_natCast] at *); (try simp (disch := omega) only [std, wrap64, Int.toNat_natCast, Nat.succ_eq_add_one, Int.natCast_add, Int.natCast_one, decide_eq_true_eq, decide_eq_false_iff_not, Int.not_lt, Int.not_le, Nat.not_lt, Nat.not_le, beq_iff_eq, beq_eq_false_iff_ne, Bool.not_eq_true', Bool.not_eq_false', ne_eq] at *)) <;> first | omega | exact int_eq (by omega) | assumption | rfl | exact DEq.rfl' _))
  · have := hr.uniq (.no (by (subst hD; (try simp only [nc] at *); (try simp only [Int.ofNat_eq_natCast] at *); (try simp (disch := omega) only [std, wrap64, Int.toNat_natCast, Nat.succ_eq_add_one, Int.natCast_add, Int.natCast_one, decide_eq_true_eq, decide_eq_false_iff_not, Int.not_lt, Int.not_le, Nat.not_lt, Nat.not_le, beq_iff_eq, beq_eq_false_iff_ne, Bool.not_eq_true', Bool.not_eq_false', ne_eq] at *)); omega) (fun a b => by (subst hD; (try simp only [nc] at *); (try simp only [Int.ofNat_eq_natCast] at *); (try simp (disch := omega) only [std, wrap64, Int.toNat_natCast, Nat.succ_eq_add_one, Int.natCast_add, Int.natCast_one, decide_eq_true_eq, decide_eq_false_iff_not, Int.not_lt, Int.not_le, Nat.not_lt, Nat.not_le, beq_iff_eq, beq_eq_false_iff_ne, Bool.not_eq_true', Bool.not_eq_false', ne_eq] at *)); omega) (fun a b => by (subst hD; (try simp only [nc] at *); (try simp only [Int.ofNat_eq_natCast] at *); (try simp (disch := omega) only [std, wrap64, Int.toNat_natCast, Nat.succ_eq_add_one, Int.natCast_add, Int.natCast_one, decide_eq_true_eq, decide_eq_false_iff_not, Int.not_lt, Int.not_le, Nat.not_lt, Nat.not_le, beq_iff_eq, beq_eq_false_iff_ne, Bool.not_eq_true', Bool.not_eq_false', ne_eq] at *)); omega) (fun a b => by (subst hD; (try simp only [nc] at *); (try simp only [Int.ofNat_eq_natCast] at *); (try simp (disch := omega) only [std, wrap64, Int.toNat_natCast, Nat.succ_eq_add_one, Int.natCast_add, Int.natCast_one, decide_eq_true_eq, decide_eq_false_iff_not, Int.not_lt, Int.not_le, Nat.not_lt, Nat.not_le, beq_iff_eq, beq_eq_false_iff_ne, Bool.not_eq_true', Bool.not_eq_false', ne_eq] at *)); omega))
    exact int_eq this.1.symm
  · have := hr.uniq (.no (by (subst hD; (try simp only [nc] at *); (try simp only [Int.ofNat_eq_natCast] at *); (try simp (disch := omega) only [std, wrap64, Int.toNat_natCast, Nat.succ_eq_add_one, Int.natCast_add, Int.natCast_one, decide_eq_true_eq, decide_eq_false_iff_not, Int.not_lt, Int.not_le, Nat.not_lt, Nat.not_le, beq_iff_eq, beq_eq_false_iff_ne, Bool.not_eq_true', Bool.not_eq_false', ne_eq] at *)); omega) (fun a b => by (subst hD; (try simp only [nc] at *); (try simp only [Int.ofNat_eq_natCast] at *); (try simp (disch := omega) only [std, wrap64, Int.toNat_natCast, Nat.succ_eq_add_one, Int.natCast_add, Int.natCast_one, decide_eq_true_eq, decide_eq_false_iff_not, Int.not_lt, Int.not_le, Nat.not_lt, Nat.not_le, beq_iff_eq, beq_eq_false_iff_ne, Bool.not_eq_true', Bool.not_eq_false', ne_eq] at *)); omega) (fun a b => by (subst hD; (try simp only [nc] at *); (try simp only [Int.ofNat_eq_natCast] at *); (try simp (disch := omega) only [std, wrap64, Int.toNat_natCast, Nat.succ_eq_add_one, Int.natCast_add, Int.natCast_one, decide_eq_true_eq, decide_eq_false_iff_not, Int.not_lt, Int.not_le, Nat.not_lt, Nat.not_le, beq_iff_eq, beq_eq_false_iff_ne, Bool.not_eq_true', Bool.not_eq_false', ne_eq] at *)); omega) (fun a b => by (subst hD; (try simp only [nc] at *); (try simp only [Int.ofNat_eq_natCast] at *); (try simp (disch := omega) only [std, wrap64, Int.toNat_natCast, Nat.succ_eq_add_one, Int.natCast_add, Int.natCast_one, decide_eq_true_eq, decide_eq_false_iff_not, Int.not_lt, Int.not_le, Nat.not_lt, Nat.not_le, beq_iff_eq, beq_eq_false_iff_ne, Bool.not_eq_true', Bool.not_eq_false', ne_eq] at *)); omega))
    rw [this.2]; rfl
  · have := hr.uniq (.no (by (subst hD; (try simp only [nc] at *); (try simp only [Int.ofNat_eq_natCast] at *); (try simp (disch := omega) only [std, wrap64, Int.toNat_natCast, Nat.succ_eq_add_one, Int.natCast_add, Int.natCast_one, decide_eq_true_eq, decide_eq_false_iff_not, Int.not_lt, Int.not_le, Nat.not_lt, Nat.not_le, beq_iff_eq, beq_eq_false_iff_ne, Bool.not_eq_true', Bool.not_eq_false', ne_eq] at *)); omega) (fun a b => by (subst hD; (try simp only [nc] at *); (try simp only [Int.ofNat_eq_natCast] at *); (try simp (disch := omega) only [std, wrap64, Int.toNat_natCast, Nat.succ_eq_add_one, Int.natCast_add, Int.natCast_one, decide_eq_true_eq, decide_eq_false_iff_not, Int.not_lt, Int.not_le, Nat.not_lt, Nat.not_le, beq_iff_eq, beq_eq_false_iff_ne, Bool.not_eq_true', Bool.not_eq_false', ne_eq] at *)); omega) (fun a b => by (subst hD; (try simp only [nc] at *); (try simp only [Int.ofNat_eq_natCast] at *); (try simp (disch := omega) only [std, wrap64, Int.toNat_natCast, Nat.succ_eq_add_one, Int.natCast_add, Int.natCast_one, decide_eq_true_eq, decide_eq_false_iff_not, Int.not_lt, Int.not_le, Nat.not_lt, Nat.not_le, beq_iff_eq, beq_eq_false_iff_ne, Bool.not_eq_true', Bool.not_eq_false', ne_eq] at *)); omega) (fun a b => by (subst hD; (try simp only [nc] at *); (try simp only [Int.ofNat_eq_natCast] at *); (try simp (disch := omega) only [std, wrap64, Int.toNat_natCast, Nat.succ_eq_add_one, Int.natCast_add, Int.natCast_one, decide_eq_true_eq, decide_eq_false_iff_not, Int.not_lt, Int.not_le, Nat.not_lt, Nat.not_le, beq_iff_eq, beq_eq_false_iff_ne, Bool.not_eq_true', Bool.not_eq_false', ne_eq] at *)); omega))
    exact int_eq this.1.symm
  · have := hr.uniq (.no (by (subst hD; (try simp only [nc] at *); (try simp only [Int.ofNat_eq_natCast] at *); (try simp (disch := omega) only [std, wrap64, Int.toNat_natCast, Nat.succ_eq_add_one, Int.natCast_add, Int.natCast_one, decide_eq_true_eq, decide_eq_false_iff_not, Int.not_lt, Int.not_le, Nat.not_lt, Nat.not_le, beq_iff_eq, beq_eq_false_iff_ne, Bool.not_eq_true', Bool.not_eq_false', ne_eq] at *)); omega) (fun a b => by (subst hD; (try simp only [nc] at *); (try simp only [Int.ofNat_eq_natCast] at *); (try simp (disch := omega) only [std, wrap64, Int.toNat_natCast, Nat.succ_eq_add_one, Int.natCast_add, Int.natCast_one, decide_eq_true_eq, decide_eq_false_iff_not, Int.not_lt, Int.not_le, Nat.not_lt, Nat.not_le, beq_iff_eq, beq_eq_false_iff_ne, Bool.not_eq_true', Bool.not_eq_false', ne_eq] at *)); omega) (fun a b => by (subst hD; (try simp only [nc] at *); (try simp only [Int.ofNat_eq_natCast] at *); (try simp (disch := omega) only [std, wrap64, Int.toNat_natCast, Nat.succ_eq_add_one, Int.natCast_add, Int.natCast_one, decide_eq_true_eq, decide_eq_false_iff_not, Int.not_lt, Int.not_le, Nat.not_lt, Nat.not_le, beq_iff_eq, beq_eq_false_iff_ne, Bool.not_eq_true', Bool.not_eq_false', ne_eq] at *)); omega) (fun a b => by (subst hD; (try simp only [nc] at *); (try simp only [Int.ofNat_eq_natCast] at *); (try simp (disch := omega) only [std, wrap64, Int.toNat_natCast, Nat.succ_eq_add_one, Int.natCast_add, Int.natCast_one, decide_eq_true_eq, decide_eq_false_iff_not, Int.not_lt, Int.not_le, Nat.not_lt, Nat.not_le, beq_iff_eq, beq_eq_false_iff_ne, Bool.not_eq_true', Bool.not_eq_false', ne_eq] at *)); omega))
    rw [this.2]; rfl
  obtain ⟨e, he, hie⟩ : ∃ e : Nat, (e : Int) = q ∧ i + e ≤ n := by (subst hD; (try simp only [nc] at *); (try simp only [Int.ofNat_eq_natCast] at *); (try simp (disch := omega) only [std, wrap64, Int.toNat_natCast, Nat.succ_eq_add_one, Int.natCast_add, Int.natCast_one, decide_eq_true_eq, decide_eq_false_iff_not, Int.not_lt, Int.not_le, Nat.not_lt, Nat.not_le, beq_iff_eq, beq_eq_false_iff_ne, Bool.not_eq_true', Bool.not_eq_false', ne_eq] at *)); exact ⟨q.toNat, by omega, by omega⟩
  obtain ⟨v, hv1, hv2⟩ : ∃ v : Int, (ContB B i e → v = valM B i (headB (B i) e) (e - 1)) ∧ (¬ ContB B i e → v = -1) := by
    by_cases c : ContB B i e
    · exact ⟨_, fun _ => rfl, fun h => absurd c h⟩
    · exact ⟨_, fun h => absurd h c, fun _ => rfl⟩
  have hq0 : q ≠ 0 := by (subst hD; (try simp only [nc] at *); (try simp only [Int.ofNat_eq_natCast] at *); (try simp (disch := omega) only [std, wrap64, Int.toNat_natCast, Nat.succ_eq_add_one, Int.natCast_add, Int.natCast_one, decide_eq_true_eq, decide_eq_false_iff_not, Int.not_lt, Int.not_le, Nat.not_lt, Nat.not_le, beq_iff_eq, beq_eq_false_iff_ne, Bool.not_eq_true', Bool.not_eq_false', ne_eq] at *)); omega
  have hbi := hB i hi
  have he4 : e = 1 ∧ 0 ≤ B i ∧ B i < 128 ∨ e = 2 ∧ 192 ≤ B i ∧ B i < 224 ∨ e = 3 ∧ 224 ≤ B i ∧ B i < 240 ∨ e = 4 ∧ 240 ≤ B i ∧ B i < 248 := by omega
  have hvc := val_cases B i e v hv1 hv2 he4
  obtain ⟨b, hb⟩ := opq (validR v)
  obtain ⟨s, hs⟩ := opq (Utf8.encode v)
  refine call_of hD hC (con_l1Value e (by omega) n B i v hB hie hn hv1 hv2) ?_
  ((try (conv => cbv)); repeat' (first | (with_reducible exact mK hD) | (with_reducible refine mJ hL ?_; try (conv => cbv)) | (with_reducible refine mS hD ?_; try (conv => cbv)) | (with_reducible refine mT hD ?_; try (conv => cbv)) | (with_reducible refine mF hD ?_; try (conv => cbv)) | (with_reducible refine mB hD (fun _ => ?_) (fun _ => ?_) <;> try (conv => cbv)) | (with_reducible exact True.intro) | (with_reducible refine And.intro ?_ ?_)))
  all_goals try (first | exact trivial | assumption | rfl | exact DEq.rfl' _ | ((subst hD; (try simp only [nc] at *); (try simp only [Int.ofNat_eq_natCast] at *); (try simp (disch := omega) only [std, wrap64, Int.toNat_natCast, Nat.succ_eq_add_one, Int.natCast_add, Int.natCast_one, decide_eq_true_eq, decide_eq_false_iff_not, Int.not_lt, Int.not_le, Nat.not_lt, Nat.not_le, beq_iff_eq, beq_eq_false_iff_ne, Bool.not_eq_true', Bool.not_eq_false', ne_eq] at *)) <;> first | omega | exact int_eq (by omega) | assumption | rfl | exact DEq.rfl' _))
  refine call_of hD hC (con_l1Valid v b hb) ?_
  ((try (conv => cbv)); repeat' (first | (with_reducible exact mK hD) | (with_reducible refine mJ hL ?_; try (conv => cbv)) | (with_reducible refine mS hD ?_; try (conv => cbv)) | (with_reducible refine mT hD ?_; try (conv => cbv)) | (with_reducible refine mF hD ?_; try (conv => cbv)) | (with_reducible refine mB hD (fun _ => ?_) (fun _ => ?_) <;> try (conv => cbv)) | (with_reducible exact True.intro) | (with_reducible refine And.intro ?_ ?_)))
  all_goals try (first | exact trivial | assumption | rfl | exact DEq.rfl' _ | ((subst hD; (try simp only [nc] at *); (try simp only [Int.ofNat_eq_natCast] at *); (try simp (disch := omega) only [std, wrap64, Int.toNat_natCast, Nat.succ_eq_add_one, Int.natCast_add, Int.natCast_one, decide_eq_true_eq, decide_eq_false_iff_not, Int.not_lt, Int.not_le, Nat.not_lt, Nat.not_le, beq_iff_eq, beq_eq_false_iff_ne, Bool.not_eq_true', Bool.not_eq_false', ne_eq] at *)) <;> first | omega | exact int_eq (by omega) | assumption | rfl | exact DEq.rfl' _))
  · subst hD; exact fun _ _ => rfl
  · subst hD; exact fun j _ => ⟨_, rfl⟩
  · refine call_of hD hC (con_l1Utf8 v s (by rw [← hb]; assumption) hs) ?_
    ((try (conv => cbv)); repeat' (first | (with_reducible exact mK hD) | (with_reducible refine mJ hL ?_; try (conv => cbv)) | (with_reducible refine mS hD ?_; try (conv => cbv)) | (with_reducible refine mT hD ?_; try (conv => cbv)) | (with_reducible refine mF hD ?_; try (conv => cbv)) | (with_reducible refine mB hD (fun _ => ?_) (fun _ => ?_) <;> try (conv => cbv)) | (with_reducible exact True.intro) | (with_reducible refine And.intro ?_ ?_)))
    all_goals try (first | exact trivial | assumption | rfl | exact DEq.rfl' _ | ((subst hD; (try simp only [nc] at *); (try simp only [Int.ofNat_eq_natCast] at *); (try simp (disch := omega) only [std, wrap64, Int.toNat_natCast, Nat.succ_eq_add_one, Int.natCast_add, Int.natCast_one, decide_eq_true_eq, decide_eq_false_iff_not, Int.not_lt, Int.not_le, Nat.not_lt, Nat.not_le, beq_iff_eq, beq_eq_false_iff_ne, Bool.not_eq_true', Bool.not_eq_false', ne_eq] at *)) <;> first | omega | exact int_eq (by omega) | assumption | rfl | exact DEq.rfl' _))
    · subst hD; exact fun _ _ => rfl
    · subst hD; exact fun j _ => ⟨_, rfl⟩
    all_goals (
      rename_i hne
      subst hD
      have hne := (neS_row hs (span_i he (by omega) (by omega))).symm.trans hne
      have hsm := rune_same hie hvc he4 (by rw [← hb]; assumption)
      simp at hne
      first
      | (have h2 := hr.uniq (hsm.resolve_left (fun h => hne h.1)).2
         first | exact int_eq h2.1.symm | (rw [h2.2]; rfl))
      | (have h2 := hr.uniq (hsm.resolve_right (fun h => h.1 hne)).2
         first | exact int_eq h2.1.symm | (rw [h2.2]; exact int_eq he.symm)))
  · have := hr.uniq (rune_bad hvc he4 (by rw [← hb]; assumption))
    exact int_eq this.1.symm
  · have := hr.uniq (rune_bad hvc he4 (by rw [← hb]; assumption))
    rw [this.2]; rfl
end Go.AW
/- Bytes, runes, numbers: sizes, copies, alike, marked, held. -/
set_option linter.unusedVariables false
set_option linter.unusedSimpArgs false
namespace Go.AW
open Go.Proofs
set_option maxRecDepth 100000
theorem x_markText (k : Int) (hk : k ≤ 1000000000000000000) : PX Try.prog 113 (fun D u => [AI (u _ k)]) (fun D u => [.c (.s (.string (D.strB (u _ (mtxt k)))))]) (fun D u => []) := by
  refine px_of_awp (fn := Try.f113) (c := bodyOf Try.f113) envOk (by kernel_rfl) (by kernel_rfl) (by kernel_rfl) (by kernel_rfl) rfl (by kernel_rfl) (by kernel_rfl) ?_
  intro w0 mine D u C L hD hu hC hL
  ((try conv => cbv); (repeat' (first | with_reducible exact mK hD | (with_reducible first | refine mS hD ?_ | refine mJ hL ?_ | refine mT hD ?_ | refine mF hD ?_ | refine mB hD (fun _ => ?_) (fun _ => ?_) | exact True.intro | refine And.intro ?_ ?_) <;> try conv => cbv)); all_goals try exact fx)
  · ((try subst hD hu); (try simp only [nc] at *); (try simp only [Int.ofNat_eq_natCast] at *); try simp (disch := omega) only [std, uid, S0] at *)
    rw [mtxt, if_pos (by omega)]
  refine loop_mu hL (MtI k) (fun s => s.1.toNat) (k, []) (fun s => [(0, VI (u _ (s.1))), (3, .one (.lf (.s (.string (D.strB (u _ (s.2)))))))]) (fun s => []) ?_ ?_ ?_
  · exact ⟨by ((try subst hD hu); (try simp only [nc] at *); (try simp only [Int.ofNat_eq_natCast] at *); try simp (disch := omega) only [std, uid, S0] at *); omega, by simp, by simp, rfl⟩
  · ((try conv => cbv); (repeat' (first | with_reducible exact mK hD | (with_reducible first | refine mS hD ?_ | refine mJ hL ?_ | refine mT hD ?_ | refine mF hD ?_ | refine mB hD (fun _ => ?_) (fun _ => ?_) | exact True.intro | refine And.intro ?_ ?_) <;> try conv => cbv)); all_goals try exact fx)
  · intro s hs
    have h1 := hs.h1
    have h2 := hs.h2
    have h3 := hs.h3
    have hX : 0 < s.1 → IntKind.wrap .u8 (48 + s.1 % 10) = 48 + s.1 % 10 := fun _ => by rw [wu8]; omega
    ((try conv => cbv); (repeat' (first | with_reducible exact mK hD | (with_reducible first | refine mS hD ?_ | refine mJ hL ?_ | refine mT hD ?_ | refine mF hD ?_ | refine mB hD (fun _ => ?_) (fun _ => ?_) | exact True.intro | refine And.intro ?_ ?_) <;> try conv => cbv)); all_goals try exact fx)
    · ((try subst hD hu); (try simp only [nc] at *); (try simp only [Int.ofNat_eq_natCast] at *); try simp (disch := omega) only [std, uid, S0] at *)
      simp
      omega
    · have hp : 0 < s.1 := lo
      have hX := hX hp
      refine ⟨(s.1 / 10, UInt8.ofNat (48 + s.1 % 10).toNat :: s.2), ⟨by simp only; omega, by simp only; omega, by simp only [List.length_cons]; omega, ?_⟩, ssem_of ?_, by simp only; omega⟩
      · rw [← hs.h4]; exact (decT_step s.1 s.2 hp).symm
      · ((try conv => cbv); (repeat' (first | with_reducible exact mK hD | (with_reducible first | refine mS hD ?_ | refine mJ hL ?_ | refine mT hD ?_ | refine mF hD ?_ | refine mB hD (fun _ => ?_) (fun _ => ?_) | exact True.intro | refine And.intro ?_ ?_) <;> try conv => cbv)); all_goals try exact fx)
        have hs3 := sr_strF (LR.one (f := fun _ => [DV.s (.int .u8 (48 + s.1 % 10))]) (d := 0) (x := UInt8.ofNat (48 + s.1 % 10).toNat) ⟨u8_deq (by omega), trivial⟩)
        ((try subst hD hu); (try simp only [nc] at *); (try simp only [Int.ofNat_eq_natCast] at *); try simp (disch := omega) only [std, uid, S0, hX] at *)
        rw [hs3]
        rfl
    · have e : s.1 = 0 := lo
      have h4 := hs.h4
      ((try subst hD hu); (try simp only [nc] at *); (try simp only [Int.ofNat_eq_natCast] at *); try simp (disch := omega) only [std, uid, S0] at *)
      rw [mtxt, if_neg (by omega), ← h4, e]
      rfl
end Go.AW
/- Texts. -/
set_option linter.unusedVariables false
set_option linter.unusedSimpArgs false
namespace Go.AW
open Go.Proofs
set_option maxRecDepth 100000
theorem x_szStringS (a : List (Str)) (left r : Int) (h : -1 ≤ left ∧ left ≤ 1048576) (hn : bdL bdET 140737488355328 a) (hr : r = if left - totL toET a < 0 then -1 else left - totL toET a) : PX Try.prog 69 (fun D u => [.r (.c (lT D u (u _ a))), AI (u _ left)]) (fun D u => [RI (u _ r)]) (fun D u => []) := by
  refine px_of_awp (fn := Try.f69) (c := bodyOf Try.f69) envOk (by kernel_rfl) (by kernel_rfl) (by kernel_rfl) (by kernel_rfl) rfl (by kernel_rfl) (by kernel_rfl) ?_
  intro w0 mine D u C L hD hu hC hL
  obtain ⟨hn1, hn2⟩ := hn
  have ht : totL toET a = a.length + cntL toET a := rfl
  have h0 := cntL_0 toET a
  ((try conv => cbv); (repeat' (first | with_reducible exact mK hD | (with_reducible first | refine mS hD ?_ | refine mJ hL ?_ | refine mT hD ?_ | refine mF hD ?_ | refine mB hD (fun _ => ?_) (fun _ => ?_) | exact True.intro | refine And.intro ?_ ?_) <;> try conv => cbv)); all_goals try exact fx)
  refine loop_st hL a.length (fun k (_ : Unit) => 0 ≤ left - a.length - cntL toET (a.take k)) () (fun k s => [(5, VI (u _ k)), (1, VI (u _ (left - a.length - cntL toET (a.take k))))]) (fun k s => []) ?_ ?_ ?_
  · ((try subst hD hu); (try simp only [nc] at *); (try simp only [Int.ofNat_eq_natCast] at *); try simp (disch := omega) only [std, uid, S0] at *); omega
  · ((try conv => cbv); (repeat' (first | with_reducible exact mK hD | (with_reducible first | refine mS hD ?_ | refine mJ hL ?_ | refine mT hD ?_ | refine mF hD ?_ | refine mB hD (fun _ => ?_) (fun _ => ?_) | exact True.intro | refine And.intro ?_ ?_) <;> try conv => cbv)); all_goals try exact fx)
  · intro k s hk hi
    have hc := cntL_le toET a k
    have hcs : k < a.length → cntL toET (a.take (k + 1)) = cntL toET (a.take k) + toET (a.getD k []) := cntL_snoc toET a [] k
    have hca := cntL_all toET a
    have hc1 := cntL_le toET a (k + 1)
    have hxs : k < a.length → bdET 140737488355328 (a.getD k []) := fun h => hn2 _ (getD_mem a [] k h)
    ((try conv => cbv); (repeat' (first | with_reducible exact mK hD | (with_reducible first | refine mS hD ?_ | refine mJ hL ?_ | refine mT hD ?_ | refine mF hD ?_ | refine mB hD (fun _ => ?_) (fun _ => ?_) | exact True.intro | refine And.intro ?_ ?_) <;> try conv => cbv)); all_goals try exact fx)
    all_goals try (have hkn : k < a.length := by ((try subst hD hu); (try simp only [nc] at *); (try simp only [Int.ofNat_eq_natCast] at *); try simp (disch := omega) only [std, uid, S0] at *); omega)
    all_goals try (have hcs := hcs hkn; have hxs := hxs hkn; simp only [bdET, toET] at hcs hxs)
    · ((try subst hD hu); (try simp only [nc] at *); (try simp only [Int.ofNat_eq_natCast] at *); try simp (disch := omega) only [std, uid, S0] at *)
      omega
    · (have hkn : k + 1 ≤ a.length := lo; refine ⟨k + 1, (), hkn, ?_, ssem_of ?_, by omega⟩)
      · ((try subst hD hu); (try simp only [nc] at *); (try simp only [Int.ofNat_eq_natCast] at *); try simp (disch := omega) only [std, uid, S0] at *)
        omega
      · ((try conv => cbv); (repeat' (first | with_reducible exact mK hD | (with_reducible first | refine mS hD ?_ | refine mJ hL ?_ | refine mT hD ?_ | refine mF hD ?_ | refine mB hD (fun _ => ?_) (fun _ => ?_) | exact True.intro | refine And.intro ?_ ?_) <;> try conv => cbv)); all_goals try exact fx)
    · have e : k = a.length := lo
      subst e
      ((try subst hD hu); (try simp only [nc] at *); (try simp only [Int.ofNat_eq_natCast] at *); try simp (disch := omega) only [std, uid, S0] at *)
      omega
theorem x_toStringS (a : List (Str)) (hn : bdL bdET 1000000000 a) : PX Try.prog 74 (fun D u => [.r (.c (lT D u (u _ a)))]) (fun D u => [.c (lT D u (u _ a))]) (fun D u => []) := by
  refine px_of_awp (fn := Try.f74) (c := bodyOf Try.f74) envOk (by kernel_rfl) (by kernel_rfl) (by kernel_rfl) (by kernel_rfl) rfl (by kernel_rfl) (by kernel_rfl) ?_
  intro w0 mine D u C L hD hu hC hL
  obtain ⟨hn1, hn2⟩ := hn
  ((try conv => cbv); (repeat' (first | with_reducible exact mK hD | (with_reducible first | refine mS hD ?_ | refine mJ hL ?_ | refine mT hD ?_ | refine mF hD ?_ | refine mB hD (fun _ => ?_) (fun _ => ?_) | exact True.intro | refine And.intro ?_ ?_) <;> try conv => cbv)); all_goals try exact fx)
  refine loop_st hL a.length (fun k s => s = a.take k ++ List.replicate (a.length - k) []) _ (fun k s => [(4, VI (u _ k)), (3, vO D 0 (u _ s))]) (fun k s => [(0, oT D u (u _ s))]) rfl ?_ ?_
  · ((try conv => cbv); (repeat' (first | with_reducible exact mK hD | (with_reducible first | refine mS hD ?_ | refine mJ hL ?_ | refine mT hD ?_ | refine mF hD ?_ | refine mB hD (fun _ => ?_) (fun _ => ?_) | exact True.intro | refine And.intro ?_ ?_) <;> try conv => cbv)); all_goals try exact fx)
    all_goals ((subst hD hu; apply qT; (focus repeat' (first | exact LR.refl | exact LR_bytes | apply mClu | apply mCel | apply mKey | apply mSnp | apply mKRd | apply mLin | apply mHis | apply mBlk | apply mScr | apply mSes | exact zR | exact zB | exact zT | exact zN | exact zClu | exact zCel | exact zCelS | exact zSnp | exact zKey | exact zSes | exact zScr | apply LR.deq | exact LR.nil | apply LR.one | apply LR.rep | apply LR.cat | apply LR.cat' | apply LR.set | exact u8_0 | exact DEq.s _ | (apply str_deq; (repeat' apply sr_cat) <;> rfl) | apply aLe_1 | (apply LR.rfl'; simp only [uid, std, S0]; omega))); all_goals try simp only [uid, std, Int.toNat_natCast, Int.ofNat_eq_natCast]); exact fill_0 a [])
  · intro k s hk hs
    subst hs
    ((try conv => cbv); (repeat' (first | with_reducible exact mK hD | (with_reducible first | refine mS hD ?_ | refine mJ hL ?_ | refine mT hD ?_ | refine mF hD ?_ | refine mB hD (fun _ => ?_) (fun _ => ?_) | exact True.intro | refine And.intro ?_ ?_) <;> try conv => cbv)); all_goals try exact fx)
    · have hkn : k < a.length := lo
      have hx := hn2 _ (getD_mem a [] k hkn)
      (have hkn : k + 1 ≤ a.length := lo; refine ⟨k + 1, (a.take (k + 1) ++ List.replicate (a.length - (k + 1)) []), hkn, ?_, ssem_of ?_, by omega⟩)
      · rfl
      · ((try conv => cbv); (repeat' (first | with_reducible exact mK hD | (with_reducible first | refine mS hD ?_ | refine mJ hL ?_ | refine mT hD ?_ | refine mF hD ?_ | refine mB hD (fun _ => ?_) (fun _ => ?_) | exact True.intro | refine And.intro ?_ ?_) <;> try conv => cbv)); all_goals try exact fx)
        (subst hD hu; apply qT; (focus repeat' (first | exact LR.refl | exact LR_bytes | apply mClu | apply mCel | apply mKey | apply mSnp | apply mKRd | apply mLin | apply mHis | apply mBlk | apply mScr | apply mSes | exact zR | exact zB | exact zT | exact zN | exact zClu | exact zCel | exact zCelS | exact zSnp | exact zKey | exact zSes | exact zScr | apply LR.deq | exact LR.nil | apply LR.one | apply LR.rep | apply LR.cat | apply LR.cat' | apply LR.set | exact u8_0 | exact DEq.s _ | (apply str_deq; (repeat' apply sr_cat) <;> rfl) | apply aLe_1 | (apply LR.rfl'; simp only [uid, std, S0]; omega))); all_goals try simp only [uid, std, Int.toNat_natCast, Int.ofNat_eq_natCast])
        exact set_fill a [] k hkn
    · have e : k = a.length := lo
      subst e
      (subst hD hu; apply qT; (focus repeat' (first | exact LR.refl | exact LR_bytes | apply mClu | apply mCel | apply mKey | apply mSnp | apply mKRd | apply mLin | apply mHis | apply mBlk | apply mScr | apply mSes | exact zR | exact zB | exact zT | exact zN | exact zClu | exact zCel | exact zCelS | exact zSnp | exact zKey | exact zSes | exact zScr | apply LR.deq | exact LR.nil | apply LR.one | apply LR.rep | apply LR.cat | apply LR.cat' | apply LR.set | exact u8_0 | exact DEq.s _ | (apply str_deq; (repeat' apply sr_cat) <;> rfl) | apply aLe_1 | (apply LR.rfl'; simp only [uid, std, S0]; omega))); all_goals try simp only [uid, std, Int.toNat_natCast, Int.ofNat_eq_natCast])
      exact fill_all a []
theorem x_eqStringS (a : List (Str)) (hn : bdL bdET 1000000000 a) : PX Try.prog 65 (fun D u => [.r (.c (lT D u (u _ a))), .r (.c (lT D u (u _ a)))]) (fun D u => [RB true]) (fun D u => []) := by
  refine px_of_awp (fn := Try.f65) (c := bodyOf Try.f65) envOk (by kernel_rfl) (by kernel_rfl) (by kernel_rfl) (by kernel_rfl) rfl (by kernel_rfl) (by kernel_rfl) ?_
  intro w0 mine D u C L hD hu hC hL
  obtain ⟨hn1, hn2⟩ := hn
  ((try conv => cbv); (repeat' (first | with_reducible exact mK hD | (with_reducible first | refine mS hD ?_ | refine mJ hL ?_ | refine mT hD ?_ | refine mF hD ?_ | refine mB hD (fun _ => ?_) (fun _ => ?_) | exact True.intro | refine And.intro ?_ ?_) <;> try conv => cbv)); all_goals try exact fx)
  refine loop_st hL a.length (fun k (s : Unit) => True) () (fun k s => [(5, VI (u _ k))]) (fun k s => []) trivial ?_ ?_
  · ((try conv => cbv); (repeat' (first | with_reducible exact mK hD | (with_reducible first | refine mS hD ?_ | refine mJ hL ?_ | refine mT hD ?_ | refine mF hD ?_ | refine mB hD (fun _ => ?_) (fun _ => ?_) | exact True.intro | refine And.intro ?_ ?_) <;> try conv => cbv)); all_goals try exact fx)
  · intro k s hk hs
    ((try conv => cbv); (repeat' (first | with_reducible exact mK hD | (with_reducible first | refine mS hD ?_ | refine mJ hL ?_ | refine mT hD ?_ | refine mF hD ?_ | refine mB hD (fun _ => ?_) (fun _ => ?_) | exact True.intro | refine And.intro ?_ ?_) <;> try conv => cbv)); all_goals try exact fx)
    (have hkn : k + 1 ≤ a.length := lo; refine ⟨k + 1, (), hkn, ?_, ssem_of ?_, by omega⟩)
    · trivial
    · ((try conv => cbv); (repeat' (first | with_reducible exact mK hD | (with_reducible first | refine mS hD ?_ | refine mJ hL ?_ | refine mT hD ?_ | refine mF hD ?_ | refine mB hD (fun _ => ?_) (fun _ => ?_) | exact True.intro | refine And.intro ?_ ?_) <;> try conv => cbv)); all_goals try exact fx)
set_option maxHeartbeats 1000000 in
theorem x_markStringS (a : List (Str)) (m r : Int) (h : 0 ≤ m ∧ m + cntL cnET a ≤ 1000000000000000000) (hn : bdL bdET 1000000000 a) (hr : r = m + cntL cnET a) : PX Try.prog 66 (fun D u => [.o (.c (lT D u (u _ a))), AI (u _ m)]) (fun D u => [RI (u _ r)]) (fun D u => [.c (lT D u (u _ (markL mkET cnET a m)))]) := by
  refine px_of_awp (fn := Try.f66) (c := bodyOf Try.f66) envOk (by kernel_rfl) (by kernel_rfl) (by kernel_rfl) (by kernel_rfl) rfl (by kernel_rfl) (by kernel_rfl) ?_
  intro w0 mine D u C L hD hu hC hL
  obtain ⟨hn1, hn2⟩ := hn
  (have hset := hsA hD; have hset3 := hsB hD; have hset2 := hset; (conv at hset2 => enter [f, a, row, 1]; whnf); (conv at hset3 => enter [f, a, row, row', 1]; whnf; enter [1]; whnf); (conv at hset3 => enter [f, a, row, row', 2]; whnf))
  have hl := markL_len mkET cnET a m
  have h0 := cntL_0 cnET a
  have hca := cntL_all cnET a
  ((try conv => cbv); (repeat' (first | with_reducible exact mK hD | (with_reducible first | refine mS hD ?_ | refine mJ hL ?_ | refine mT hD ?_ | refine mF hD ?_ | refine mB hD (fun _ => ?_) (fun _ => ?_) | exact True.intro | refine And.intro ?_ ?_) <;> try conv => cbv)); all_goals try exact fx)
  refine loop_st hL a.length (fun k s => s = (markL mkET cnET a m).take k ++ a.drop k) _ (fun k s => [(5, VI (u _ k)), (1, VI (u _ (m + cntL cnET (a.take k))))]) (fun k s => [(0, oT D u (u _ s))]) rfl ?_ ?_
  · ((try conv => cbv); (repeat' (first | with_reducible exact mK hD | (with_reducible first | refine mS hD ?_ | refine mJ hL ?_ | refine mT hD ?_ | refine mF hD ?_ | refine mB hD (fun _ => ?_) (fun _ => ?_) | exact True.intro | refine And.intro ?_ ?_) <;> try conv => cbv)); all_goals try exact fx)
  · intro k s hk hs
    subst hs
    have hc := cntL_le cnET a k
    ((try conv => cbv); (repeat' (first | with_reducible exact mK hD | (with_reducible first | refine mS hD ?_ | refine mJ hL ?_ | refine mT hD ?_ | refine mF hD ?_ | refine mB hD (fun _ => ?_) (fun _ => ?_) | exact True.intro | refine And.intro ?_ ?_) <;> try conv => cbv)); all_goals try exact fx)
    repeat' (simp only [hset2, hset3, hset, rowN]; ((try conv => cbv); (repeat' (first | with_reducible exact mK hD | (with_reducible first | refine mS hD ?_ | refine mJ hL ?_ | refine mT hD ?_ | refine mF hD ?_ | refine mB hD (fun _ => ?_) (fun _ => ?_) | exact True.intro | refine And.intro ?_ ?_) <;> try conv => cbv)); all_goals try exact fx))
    all_goals try (have e : k = a.length := lo; subst e; first | (((try subst hD hu); (try simp only [nc] at *); (try simp only [Int.ofNat_eq_natCast] at *); try simp (disch := omega) only [std, uid, S0] at *); omega; done) | ((subst hD hu; apply qT; (focus repeat' (first | exact LR.refl | exact LR_bytes | apply mClu | apply mCel | apply mKey | apply mSnp | apply mKRd | apply mLin | apply mHis | apply mBlk | apply mScr | apply mSes | exact zR | exact zB | exact zT | exact zN | exact zClu | exact zCel | exact zCelS | exact zSnp | exact zKey | exact zSes | exact zScr | apply LR.deq | exact LR.nil | apply LR.one | apply LR.rep | apply LR.cat | apply LR.cat' | apply LR.set | exact u8_0 | exact DEq.s _ | (apply str_deq; (repeat' apply sr_cat) <;> rfl) | apply aLe_1 | (apply LR.rfl'; simp only [uid, std, S0]; omega))); all_goals try simp only [uid, std, Int.toNat_natCast, Int.ofNat_eq_natCast]); exact over_all _ a hl))
    · have hkn : k < a.length := lo
      have hg := over_get (markL mkET cnET a m) a [] k hkn hl
      have hq := markL_get mkET cnET [] a m k hkn
      have hcs := cntL_snoc cnET a [] k hkn
      have hc2 := cntL_le cnET a (k + 1)
      have hx := hn2 _ (getD_mem a [] k hkn)
      have hov := set_over (markL mkET cnET a m) a [] k hkn hl
      rw [hq] at hov
      generalize hx' : a.getD k [] = x at *
      simp only [cnET] at hcs
      generalize hK : m + (cntL cnET (a.take k) : Int) = K at *
      refine callx hD hu hC (x_markText (K) (by omega)) ?_
      ((try conv => cbv); (repeat' (first | with_reducible exact mK hD | (with_reducible first | refine mS hD ?_ | refine mJ hL ?_ | refine mT hD ?_ | refine mF hD ?_ | refine mB hD (fun _ => ?_) (fun _ => ?_) | exact True.intro | refine And.intro ?_ ?_) <;> try conv => cbv)); all_goals try exact fx)
      all_goals try ((subst hD hu; (try simp only [std, uid, rR, rB, rT, rN, rClu, rCel, rSnp, rKey, rCluS, rCelS, lR, lB, lT, lN, lClu, lCel, eL, dClu, dCel, dSnp, dKey, Int.toNat_natCast, Int.ofNat_eq_natCast, hg]) <;> rfl))
      repeat' (simp only [hset2, hset3, hset, rowN]; ((try conv => cbv); (repeat' (first | with_reducible exact mK hD | (with_reducible first | refine mS hD ?_ | refine mJ hL ?_ | refine mT hD ?_ | refine mF hD ?_ | refine mB hD (fun _ => ?_) (fun _ => ?_) | exact True.intro | refine And.intro ?_ ?_) <;> try conv => cbv)); all_goals try exact fx))
      all_goals try ((subst hD hu; (try simp only [std, uid, rR, rB, rT, rN, rClu, rCel, rSnp, rKey, rCluS, rCelS, lR, lB, lT, lN, lClu, lCel, eL, dClu, dCel, dSnp, dKey, Int.toNat_natCast, Int.ofNat_eq_natCast, hg]) <;> rfl))
      (have hkn : k + 1 ≤ a.length := lo; refine ⟨k + 1, ((markL mkET cnET a m).take (k + 1) ++ a.drop (k + 1)), hkn, ?_, ssem_of ?_, by omega⟩)
      · rfl
      · ((try conv => cbv); (repeat' (first | with_reducible exact mK hD | (with_reducible first | refine mS hD ?_ | refine mJ hL ?_ | refine mT hD ?_ | refine mF hD ?_ | refine mB hD (fun _ => ?_) (fun _ => ?_) | exact True.intro | refine And.intro ?_ ?_) <;> try conv => cbv)); all_goals try exact fx)
        all_goals try (((try subst hD hu); (try simp only [nc] at *); (try simp only [Int.ofNat_eq_natCast] at *); try simp (disch := omega) only [std, uid, S0] at *); omega; done)
        (subst hD hu; apply qT; (focus repeat' (first | exact LR.refl | exact LR_bytes | apply mClu | apply mCel | apply mKey | apply mSnp | apply mKRd | apply mLin | apply mHis | apply mBlk | apply mScr | apply mSes | exact zR | exact zB | exact zT | exact zN | exact zClu | exact zCel | exact zCelS | exact zSnp | exact zKey | exact zSes | exact zScr | apply LR.deq | exact LR.nil | apply LR.one | apply LR.rep | apply LR.cat | apply LR.cat' | apply LR.set | exact u8_0 | exact DEq.s _ | (apply str_deq; (repeat' apply sr_cat) <;> rfl) | apply aLe_1 | (apply LR.rfl'; simp only [uid, std, S0]; omega))); all_goals try simp only [uid, std, Int.toNat_natCast, Int.ofNat_eq_natCast])
        try simp (disch := omega) only [wrap64, Int.tmod_eq_emod_of_nonneg]
        exact hov
set_option maxHeartbeats 1000000 in
theorem x_heldStringS (a : List (Str)) (m r : Int) (h : 0 ≤ m ∧ m + cntL cnET a ≤ 1000000000000000000) (hn : bdL bdET 1000000000 a) (hr : r = m + cntL cnET a) : PX Try.prog 67 (fun D u => [.r (.c (lT D u (u _ (markL mkET cnET a m)))), AI (u _ m)]) (fun D u => [RI (u _ r)]) (fun D u => []) := by
  refine px_of_awp (fn := Try.f67) (c := bodyOf Try.f67) envOk (by kernel_rfl) (by kernel_rfl) (by kernel_rfl) (by kernel_rfl) rfl (by kernel_rfl) (by kernel_rfl) ?_
  intro w0 mine D u C L hD hu hC hL
  obtain ⟨hn1, hn2⟩ := hn
  have hl := markL_len mkET cnET a m
  have h0 := cntL_0 cnET a
  have hca := cntL_all cnET a
  ((try conv => cbv); (repeat' (first | with_reducible exact mK hD | (with_reducible first | refine mS hD ?_ | refine mJ hL ?_ | refine mT hD ?_ | refine mF hD ?_ | refine mB hD (fun _ => ?_) (fun _ => ?_) | exact True.intro | refine And.intro ?_ ?_) <;> try conv => cbv)); all_goals try exact fx)
  refine loop_st hL a.length (fun k (s : Unit) => True) () (fun k s => [(5, VI (u _ k)), (1, VI (u _ (m + cntL cnET (a.take k))))]) (fun k s => []) trivial ?_ ?_
  · ((try conv => cbv); (repeat' (first | with_reducible exact mK hD | (with_reducible first | refine mS hD ?_ | refine mJ hL ?_ | refine mT hD ?_ | refine mF hD ?_ | refine mB hD (fun _ => ?_) (fun _ => ?_) | exact True.intro | refine And.intro ?_ ?_) <;> try conv => cbv)); all_goals try exact fx)
  · intro k s hk hs
    have hc := cntL_le cnET a k
    ((try conv => cbv); (repeat' (first | with_reducible exact mK hD | (with_reducible first | refine mS hD ?_ | refine mJ hL ?_ | refine mT hD ?_ | refine mF hD ?_ | refine mB hD (fun _ => ?_) (fun _ => ?_) | exact True.intro | refine And.intro ?_ ?_) <;> try conv => cbv)); all_goals try exact fx)
    all_goals try (have e : k = a.length := lo; subst e; ((try subst hD hu); (try simp only [nc] at *); (try simp only [Int.ofNat_eq_natCast] at *); try simp (disch := omega) only [std, uid, S0] at *); omega; done)
    all_goals (
      have hkn : k < a.length := lo
      have hq := markL_get mkET cnET [] a m k hkn
      have hcs := cntL_snoc cnET a [] k hkn
      have hc2 := cntL_le cnET a (k + 1)
      have hx := hn2 _ (getD_mem a [] k hkn)
      generalize hx' : a.getD k [] = x at *
      simp only [cnET] at hcs
      generalize hK : m + (cntL cnET (a.take k) : Int) = K at *)
    all_goals try (exfalso; ((try subst hD hu); (try simp only [nc] at *); (try simp only [Int.ofNat_eq_natCast] at *); try simp (disch := omega) only [std, uid, S0, hq, mkET] at *); first | done | omega | (simp_all; done))
    refine callx hD hu hC (x_markText (K) (by omega)) ?_
    ((try conv => cbv); (repeat' (first | with_reducible exact mK hD | (with_reducible first | refine mS hD ?_ | refine mJ hL ?_ | refine mT hD ?_ | refine mF hD ?_ | refine mB hD (fun _ => ?_) (fun _ => ?_) | exact True.intro | refine And.intro ?_ ?_) <;> try conv => cbv)); all_goals try exact fx)
    all_goals try ((subst hD hu; (try simp only [std, uid, rR, rB, rT, rN, rClu, rCel, rSnp, rKey, rCluS, rCelS, lR, lB, lT, lN, lClu, lCel, eL, dClu, dCel, dSnp, dKey, Int.toNat_natCast, Int.ofNat_eq_natCast, hq, mkET]) <;> rfl))
    all_goals try (exfalso; ((try subst hD hu); (try simp only [nc] at *); (try simp only [Int.ofNat_eq_natCast] at *); try simp (disch := omega) only [std, uid, S0, hq, mkET] at *); first | done | omega | (simp_all; done))
    all_goals (
      (have hkn : k + 1 ≤ a.length := lo; refine ⟨k + 1, (), hkn, ?_, ssem_of ?_, by omega⟩)
      · trivial
      · ((try conv => cbv); (repeat' (first | with_reducible exact mK hD | (with_reducible first | refine mS hD ?_ | refine mJ hL ?_ | refine mT hD ?_ | refine mF hD ?_ | refine mB hD (fun _ => ?_) (fun _ => ?_) | exact True.intro | refine And.intro ?_ ?_) <;> try conv => cbv)); all_goals try exact fx))
end Go.AW
/- Clusters: sizes, copies, alike, marked, held. -/
set_option linter.unusedVariables false
set_option linter.unusedSimpArgs false
namespace Go.AW
open Go.Proofs
set_option maxRecDepth 100000
end Go.AW
/- Runes appended; the text of clusters. -/
set_option linter.unusedVariables false
set_option linter.unusedSimpArgs false
namespace Go.AW
open Go.Proofs
set_option maxRecDepth 100000
set_option maxHeartbeats 4000000
theorem LR_lit8 {xs : List Int} {n : Nat} {ys : Str} (h : ys.map (fun b => (b.toNat : Int)) = xs) (hn : n = xs.length) : LR (rB std uid) 0 (fun i => [.s (.int .u8 (std.nthI xs i))]) n ys := by
  subst h hn
  refine ⟨by simp, fun i hi => ?_⟩
  have hi' : i < ys.length := by simpa using hi
  refine aLe_1 ?_
  have : std.nthI (ys.map fun b => (b.toNat : Int)) i = std.u8I (ys.getD i 0) := by
    simp [std, List.getD_eq_getElem?_getD, hi']
  rw [this]
theorem LR_lit8' {xs : List Int} {n : Nat} {ys : Str} (h : ys.map (fun b => (b.toNat : Int)) = xs) (hn : n = xs.length) : LR (rB std uid) 0 (fun j => List.map (fun c => c j) [fun i => DV.s (.int .u8 (std.nthI xs i))]) n ys := LR_lit8 h hn
theorem lit2 (r : Int) (h : 128 ≤ r ∧ r < 2048) : [b8 (192 + r / 64), b8 (128 + r % 64)].map (fun b => (b.toNat : Int)) = [std.bitI .or .u8 192 (std.wrapI .u8 (std.shrI .i32 r 6)), std.bitI .or .u8 128 (std.bitI .and .u8 (std.wrapI .u8 r) 63)] := by
  simp only [List.map]
  rw [shr6 _ bits32, ← lead2 _ (by omega), ← tail8]
theorem lit3 (r : Int) (h : 2048 ≤ r ∧ r < 65536) : [b8 (224 + r / 4096), b8 (128 + r / 64 % 64), b8 (128 + r % 64)].map (fun b => (b.toNat : Int)) = [std.bitI .or .u8 224 (std.wrapI .u8 (std.shrI .i32 r 12)), std.bitI .or .u8 128 (std.bitI .and .u8 (std.wrapI .u8 (std.shrI .i32 r 6)) 63), std.bitI .or .u8 128 (std.bitI .and .u8 (std.wrapI .u8 r) 63)] := by
  simp only [List.map]
  rw [shr6 _ bits32, shr12 _ bits32, ← lead3 _ (by omega), ← tail8, ← tail8]
theorem lit4 (r : Int) (h : 65536 ≤ r ∧ r ≤ 1114111) : [b8 (240 + r / 262144), b8 (128 + r / 4096 % 64), b8 (128 + r / 64 % 64), b8 (128 + r % 64)].map (fun b => (b.toNat : Int)) = [std.bitI .or .u8 240 (std.wrapI .u8 (std.shrI .i32 r 18)), std.bitI .or .u8 128 (std.bitI .and .u8 (std.wrapI .u8 (std.shrI .i32 r 12)) 63), std.bitI .or .u8 128 (std.bitI .and .u8 (std.wrapI .u8 (std.shrI .i32 r 6)) 63), std.bitI .or .u8 128 (std.bitI .and .u8 (std.wrapI .u8 r) 63)] := by
  simp only [List.map]
  rw [shr6 _ bits32, shr12 _ bits32, shr18 _ bits32, ← lead4 _ (by omega), ← tail8, ← tail8, ← tail8]
theorem x_appendRuneNonASCII (l : Str) (r : Int) (hr : -2147483648 ≤ r ∧ r ≤ 2147483647) (hr2 : r < 0 ∨ 127 < r) (hn : l.length ≤ 1099511627776) :
    PX Try.prog 157 (fun D u => [.g (.c (lB D u (u _ l))), AK .i32 (u _ r)]) (fun D u => [.c (lB D u (u _ (l ++ enc r)))]) (fun D u => []) := by
  refine px_of_awp (fn := Try.f157) (c := bodyOf Try.f157) envOk (by kernel_rfl) (by kernel_rfl) (by kernel_rfl) (by kernel_rfl) rfl (by kernel_rfl) (by kernel_rfl) ?_
  intro w0 mine D u C L hD hu hC hL
  have h4 := (enc_len r).1
  ((try conv => cbv); (repeat' (first | with_reducible exact mK hD | (with_reducible first | refine mS hD ?_ | refine mJ hL ?_ | refine mT hD ?_ | refine mF hD ?_ | refine mB hD (fun _ => ?_) (fun _ => ?_) | exact True.intro | refine And.intro ?_ ?_) <;> try conv => cbv)); all_goals try exact fx)
  all_goals first
    | ( have he : enc r = [b8 (192 + r / 64), b8 (128 + r % 64)] ∧ 128 ≤ r ∧ r < 2048 := by ((try subst hD hu); (try simp only [nc] at *); (try simp only [Int.ofNat_eq_natCast] at *); try simp (disch := omega) only [std, uid, S0, wU32] at *); exact ⟨enc_2 (by omega), by omega, by omega⟩
        subst hD hu
        first
        | (simp only [uid, std, List.length_append, he.1]; rfl)
        | (apply qB
           · first | apply LR.cat | apply LR.cat'
             · exact LR.refl
             · apply LR_lit8' (ys := enc r)
               · rw [he.1]
                 exact lit2 r he.2
               · rfl
           · rfl))
    | ( have he : enc r = [b8 (224 + r / 4096), b8 (128 + r / 64 % 64), b8 (128 + r % 64)] ∧ 2048 ≤ r ∧ r < 65536 := by ((try subst hD hu); (try simp only [nc] at *); (try simp only [Int.ofNat_eq_natCast] at *); try simp (disch := omega) only [std, uid, S0, wU32] at *); exact ⟨enc_3 (validR_of (by omega)) (by omega), by omega, by omega⟩
        subst hD hu
        first
        | (simp only [uid, std, List.length_append, he.1]; rfl)
        | (apply qB
           · first | apply LR.cat | apply LR.cat'
             · exact LR.refl
             · apply LR_lit8' (ys := enc r)
               · rw [he.1]
                 exact lit3 r he.2
               · rfl
           · rfl))
    | ( have he : enc r = [b8 (240 + r / 262144), b8 (128 + r / 4096 % 64), b8 (128 + r / 64 % 64), b8 (128 + r % 64)] ∧ 65536 ≤ r ∧ r ≤ 1114111 := by ((try subst hD hu); (try simp only [nc] at *); (try simp only [Int.ofNat_eq_natCast] at *); try simp (disch := omega) only [std, uid, S0, wU32] at *); exact ⟨enc_4 (validR_of (by omega)) (by omega), by omega, by omega⟩
        subst hD hu
        first
        | (simp only [uid, std, List.length_append, he.1]; rfl)
        | (apply qB
           · first | apply LR.cat | apply LR.cat'
             · exact LR.refl
             · apply LR_lit8' (ys := enc r)
               · rw [he.1]
                 exact lit4 r he.2
               · rfl
           · rfl))
    | ( have he : enc r = [239, 191, 189] := by ((try subst hD hu); (try simp only [nc] at *); (try simp only [Int.ofNat_eq_natCast] at *); try simp (disch := omega) only [std, uid, S0, wU32] at *); exact enc_invalid (validR_not (by omega))
        subst hD hu
        first
        | (simp only [uid, std, List.length_append, he]; rfl)
        | (apply qB
           · first | apply LR.cat | apply LR.cat'
             · exact LR.refl
             · apply LR_lit8' (ys := enc r)
               · rw [he]
                 rfl
               · rfl
           · rfl))
theorem u8_b8 (r : Int) (h : 0 ≤ r ∧ r < 128) : DEq (.s (.int .u8 (std.wrapI .u8 r))) (.s (.int .u8 (std.u8I (b8 r)))) := by
  have : std.u8I (b8 r) = std.wrapI .u8 r := by
    simp only [std]
    rw [b8_toNat _ (by omega), wrapU8 _ (by omega)]
  rw [this]
theorem x_AppendRune (l : Str) (r : Int) (hr : -2147483648 ≤ r ∧ r ≤ 2147483647) (hn : l.length ≤ 1099511627776) :
    PX Try.prog 122 (fun D u => [.g (.c (lB D u (u _ l))), AK .i32 (u _ r)]) (fun D u => [.c (lB D u (u _ (l ++ enc r)))]) (fun D u => []) := by
  refine px_of_awp (fn := Try.f122) (c := bodyOf Try.f122) envOk (by kernel_rfl) (by kernel_rfl) (by kernel_rfl) (by kernel_rfl) rfl (by kernel_rfl) (by kernel_rfl) ?_
  intro w0 mine D u C L hD hu hC hL
  have h4 := (enc_len r).1
  ((try conv => cbv); (repeat' (first | with_reducible exact mK hD | (with_reducible first | refine mS hD ?_ | refine mJ hL ?_ | refine mT hD ?_ | refine mF hD ?_ | refine mB hD (fun _ => ?_) (fun _ => ?_) | exact True.intro | refine And.intro ?_ ?_) <;> try conv => cbv)); all_goals try exact fx)
  iterate 2
    have he : enc r = [b8 r] ∧ 0 ≤ r ∧ r < 128 := by ((try subst hD hu); (try simp only [nc] at *); (try simp only [Int.ofNat_eq_natCast] at *); try simp (disch := omega) only [std, uid, S0, wU32] at *); exact ⟨enc_1 (by omega), by omega, by omega⟩
    subst hD hu
    first
    | (simp only [uid, std, List.length_append, he.1]; rfl)
    | (apply qB
       · first | apply LR.cat | apply LR.cat'
         · exact LR.refl
         · exact LR.one (x := b8 r) ⟨u8_b8 r he.2, trivial⟩
       · rw [he.1]; rfl)
  refine callx hD hu hC (x_appendRuneNonASCII l r hr (by ((try subst hD hu); (try simp only [nc] at *); (try simp only [Int.ofNat_eq_natCast] at *); try simp (disch := omega) only [std, uid, S0, wU32] at *); omega) hn) ?_
  ((try conv => cbv); (repeat' (first | with_reducible exact mK hD | (with_reducible first | refine mS hD ?_ | refine mJ hL ?_ | refine mT hD ?_ | refine mF hD ?_ | refine mB hD (fun _ => ?_) (fun _ => ?_) | exact True.intro | refine And.intro ?_ ?_) <;> try conv => cbv)); all_goals try exact fx)
def textOf (cs : List Clu) : Str := cs.flatMap fun c => c.runes.flatMap enc
theorem encs_len (l : List Int) : (l.flatMap enc).length ≤ 4 * l.length := by
  induction l with
  | nil => simp
  | cons r l ih =>
    have := (enc_len r).1
    simp only [List.flatMap_cons, List.length_append, List.length_cons]
    omega
theorem textOf_len (cs : List Clu) : (textOf cs).length ≤ 4 * cntL toEClu cs := by
  induction cs with
  | nil => simp [textOf]
  | cons c l ih =>
    have := encs_len c.runes
    simp only [textOf, List.flatMap_cons, List.length_append, cntL, List.map_cons, List.sum_cons, toEClu] at *
    omega
theorem textOf_snoc (cs : List Clu) (k : Nat) (h : k < cs.length) : textOf (cs.take (k + 1)) = textOf (cs.take k) ++ (cs.getD k dClu).runes.flatMap enc := by
  rw [take_snoc cs dClu k h]
  simp [textOf]
theorem encs_snoc (l : List Int) (k : Nat) (h : k < l.length) : (l.take (k + 1)).flatMap enc = (l.take k).flatMap enc ++ enc (l.getD k 0) := by
  rw [take_snoc l 0 k h]
  simp
theorem x_implTextOf (cs : List Clu) (hn : totL toEClu cs ≤ 1000000000) (hc : ∀ c, c ∈ cs → okClu c) : PX Try.prog 64 (fun D u => [.r (.c (lClu D u (u _ cs)))]) (fun D u => [.c (.s (.string (D.strB (u _ (textOf cs)))))]) (fun D u => []) := by
  refine px_of_awp (fn := Try.f64) (c := bodyOf Try.f64) envOk (by kernel_rfl) (by kernel_rfl) (by kernel_rfl) (by kernel_rfl) rfl (by kernel_rfl) (by kernel_rfl) ?_
  intro w0 mine D u C L hD hu hC hL
  simp only [totL] at hn
  ((try conv => cbv); (repeat' (first | with_reducible exact mK hD | (with_reducible first | refine mS hD ?_ | refine mJ hL ?_ | refine mT hD ?_ | refine mF hD ?_ | refine mB hD (fun _ => ?_) (fun _ => ?_) | exact True.intro | refine And.intro ?_ ?_) <;> try conv => cbv)); all_goals try exact fx)
  refine loop_st hL cs.length (fun k s => s = textOf (cs.take k)) [] (fun k s => [(3, vO D 0 (u _ s)), (8, .bad), (11, VI (u _ k))]) (fun k s => [(0, oB D u (u _ s))]) rfl ?_ ?_
  · ((try conv => cbv); (repeat' (first | with_reducible exact mK hD | (with_reducible first | refine mS hD ?_ | refine mJ hL ?_ | refine mT hD ?_ | refine mF hD ?_ | refine mB hD (fun _ => ?_) (fun _ => ?_) | exact True.intro | refine And.intro ?_ ?_) <;> try conv => cbv)); all_goals try exact fx)
    (subst hD hu; apply qB; (focus repeat' (first | exact LR.refl | exact LR_bytes | apply mClu | apply mCel | apply mKey | apply mSnp | apply mKRd | apply mLin | apply mHis | apply mBlk | apply mScr | apply mSes | exact zR | exact zB | exact zT | exact zN | exact zClu | exact zCel | exact zCelS | exact zSnp | exact zKey | exact zSes | exact zScr | apply LR.deq | exact LR.nil | apply LR.one | apply LR.rep | apply LR.cat | apply LR.cat' | apply LR.set | exact u8_0 | exact DEq.s _ | (apply str_deq; (repeat' apply sr_cat) <;> rfl) | apply aLe_1 | (apply LR.rfl'; simp only [uid, std, S0]; omega))); all_goals try simp only [uid, std, Int.toNat_natCast, Int.ofNat_eq_natCast])
  · intro k s hk hs
    subst hs
    have hb1 := textOf_len (cs.take k)
    have hb2 := cntL_le toEClu cs k
    ((try conv => cbv); (repeat' (first | with_reducible exact mK hD | (with_reducible first | refine mS hD ?_ | refine mJ hL ?_ | refine mT hD ?_ | refine mF hD ?_ | refine mB hD (fun _ => ?_) (fun _ => ?_) | exact True.intro | refine And.intro ?_ ?_) <;> try conv => cbv)); all_goals try exact fx)
    · have hkn : k < cs.length := lo
      have hsn := textOf_snoc cs k hkn
      have hb3 := cntL_snoc toEClu cs dClu k hkn
      have hb4 := cntL_le toEClu cs (k + 1)
      have hx := (hc _ (getD_mem cs dClu k hkn)).1
      generalize hx' : cs.getD k dClu = x at *
      simp only [toEClu] at hb3
      refine loop_st hL x.runes.length (fun j s => s = textOf (cs.take k) ++ (x.runes.take j).flatMap enc) _ (fun j s => [(3, vO D 0 (u _ s)), (18, VI (u _ j))]) (fun j s => [(0, oB D u (u _ s))]) rfl ?_ ?_
      · ((try conv => cbv); (repeat' (first | with_reducible exact mK hD | (with_reducible first | refine mS hD ?_ | refine mJ hL ?_ | refine mT hD ?_ | refine mF hD ?_ | refine mB hD (fun _ => ?_) (fun _ => ?_) | exact True.intro | refine And.intro ?_ ?_) <;> try conv => cbv)); all_goals try exact fx)
        all_goals ((subst hD hu; apply qB; (focus repeat' (first | exact LR.refl | exact LR_bytes | apply mClu | apply mCel | apply mKey | apply mSnp | apply mKRd | apply mLin | apply mHis | apply mBlk | apply mScr | apply mSes | exact zR | exact zB | exact zT | exact zN | exact zClu | exact zCel | exact zCelS | exact zSnp | exact zKey | exact zSes | exact zScr | apply LR.deq | exact LR.nil | apply LR.one | apply LR.rep | apply LR.cat | apply LR.cat' | apply LR.set | exact u8_0 | exact DEq.s _ | (apply str_deq; (repeat' apply sr_cat) <;> rfl) | apply aLe_1 | (apply LR.rfl'; simp only [uid, std, S0]; omega))); all_goals try simp only [uid, std, Int.toNat_natCast, Int.ofNat_eq_natCast]); simp)
      · intro j s hj hs
        subst hs
        have hb5 := encs_len (x.runes.take j)
        ((try conv => cbv); (repeat' (first | with_reducible exact mK hD | (with_reducible first | refine mS hD ?_ | refine mJ hL ?_ | refine mT hD ?_ | refine mF hD ?_ | refine mB hD (fun _ => ?_) (fun _ => ?_) | exact True.intro | refine And.intro ?_ ?_) <;> try conv => cbv)); all_goals try exact fx)
        · have hjn : j < x.runes.length := by ((try subst hD hu); (try simp only [nc] at *); (try simp only [Int.ofNat_eq_natCast] at *); try simp (disch := omega) only [std, uid, S0, hx'] at *); omega
          have hsj := encs_snoc x.runes j hjn
          refine callx hD hu hC (x_AppendRune (textOf (cs.take k) ++ (x.runes.take j).flatMap enc) (x.runes.getD j 0) (hx _ (getD_mem _ _ _ hjn)) (by simp only [List.length_append, List.length_take] at *; omega)) ?_
          ((try conv => cbv); (repeat' (first | with_reducible exact mK hD | (with_reducible first | refine mS hD ?_ | refine mJ hL ?_ | refine mT hD ?_ | refine mF hD ?_ | refine mB hD (fun _ => ?_) (fun _ => ?_) | exact True.intro | refine And.intro ?_ ?_) <;> try conv => cbv)); all_goals try exact fx)
          all_goals try ((subst hD hu; (try simp only [std, uid, rR, rB, rT, rN, rClu, rCel, rSnp, rKey, rCluS, rCelS, lR, lB, lT, lN, lClu, lCel, eL, dClu, dCel, dSnp, dKey, Int.toNat_natCast, Int.ofNat_eq_natCast, hx']) <;> rfl))
          refine ⟨j + 1, textOf (cs.take k) ++ (x.runes.take j).flatMap enc ++ enc (x.runes.getD j 0), hjn, by rw [hsj, List.append_assoc], ssem_of ?_, by omega⟩
          ((try conv => cbv); (repeat' (first | with_reducible exact mK hD | (with_reducible first | refine mS hD ?_ | refine mJ hL ?_ | refine mT hD ?_ | refine mF hD ?_ | refine mB hD (fun _ => ?_) (fun _ => ?_) | exact True.intro | refine And.intro ?_ ?_) <;> try conv => cbv)); all_goals try exact fx)
        · have e : j = x.runes.length := by ((try subst hD hu); (try simp only [nc] at *); (try simp only [Int.ofNat_eq_natCast] at *); try simp (disch := omega) only [std, uid, S0, hx'] at *); omega
          subst e
          refine ⟨k + 1, textOf (cs.take k) ++ (x.runes.take x.runes.length).flatMap enc, hkn, by rw [hsn, List.take_length], ssem_of ?_, by omega⟩
          ((try conv => cbv); (repeat' (first | with_reducible exact mK hD | (with_reducible first | refine mS hD ?_ | refine mJ hL ?_ | refine mT hD ?_ | refine mF hD ?_ | refine mB hD (fun _ => ?_) (fun _ => ?_) | exact True.intro | refine And.intro ?_ ?_) <;> try conv => cbv)); all_goals try exact fx)
    · have e : k = cs.length := lo
      subst e
      subst hD hu
      refine str_eq' ((sr_strF LR.refl).trans ?_)
      rw [show uid (List UInt8) (textOf (cs.take cs.length)) = textOf cs by rw [List.take_length]; rfl]
      rfl
theorem strB_enc (r : Int) : std.strB (enc r) = Utf8.encode r := rfl
theorem x_l1Valid (r : Int) : PX Try.prog 117 (fun D u => [AI (u _ r)]) (fun D u => [RB (u _ (validR r))]) (fun D u => []) := px_of (con_l1Valid r _ rfl)
theorem x_l1Utf8 (r : Int) (hv : validR r = true) : PX Try.prog 118 (fun D u => [AI (u _ r)]) (fun D u => [.c (.s (.string (D.strB (u _ (enc r)))))]) (fun D u => []) := px_of (con_l1Utf8 r _ hv (strB_enc r))
theorem enc_bad {r : Int} (h : validR r = false) : enc r = enc 65533 := by rw [enc_invalid h]; decide
theorem x_specTextOf (cs : List Clu) (hn : totL toEClu cs ≤ 1000000000) (hc : ∀ c, c ∈ cs → okClu c) : PX Try.prog 59 (fun D u => [.r (.c (lClu D u (u _ cs)))]) (fun D u => [.c (.s (.string (D.strB (u _ (textOf cs)))))]) (fun D u => []) := by
  refine px_of_awp (fn := Try.f59) (c := bodyOf Try.f59) envOk (by kernel_rfl) (by kernel_rfl) (by kernel_rfl) (by kernel_rfl) rfl (by kernel_rfl) (by kernel_rfl) ?_
  intro w0 mine D u C L hD hu hC hL
  simp only [totL] at hn
  ((try conv => cbv); (repeat' (first | with_reducible exact mK hD | (with_reducible first | refine mS hD ?_ | refine mJ hL ?_ | refine mT hD ?_ | refine mF hD ?_ | refine mB hD (fun _ => ?_) (fun _ => ?_) | exact True.intro | refine And.intro ?_ ?_) <;> try conv => cbv)); all_goals try exact fx)
  refine loop_st hL cs.length (fun k s => s = textOf (cs.take k)) [] (fun k s => [(3, vO D 0 (u _ s)), (7, .bad), (4, VI (u _ k))]) (fun k s => [(0, oB D u (u _ s))]) rfl ?_ ?_
  · ((try conv => cbv); (repeat' (first | with_reducible exact mK hD | (with_reducible first | refine mS hD ?_ | refine mJ hL ?_ | refine mT hD ?_ | refine mF hD ?_ | refine mB hD (fun _ => ?_) (fun _ => ?_) | exact True.intro | refine And.intro ?_ ?_) <;> try conv => cbv)); all_goals try exact fx)
    (subst hD hu; apply qB; (focus repeat' (first | exact LR.refl | exact LR_bytes | apply mClu | apply mCel | apply mKey | apply mSnp | apply mKRd | apply mLin | apply mHis | apply mBlk | apply mScr | apply mSes | exact zR | exact zB | exact zT | exact zN | exact zClu | exact zCel | exact zCelS | exact zSnp | exact zKey | exact zSes | exact zScr | apply LR.deq | exact LR.nil | apply LR.one | apply LR.rep | apply LR.cat | apply LR.cat' | apply LR.set | exact u8_0 | exact DEq.s _ | (apply str_deq; (repeat' apply sr_cat) <;> rfl) | apply aLe_1 | (apply LR.rfl'; simp only [uid, std, S0]; omega))); all_goals try simp only [uid, std, Int.toNat_natCast, Int.ofNat_eq_natCast])
  · intro k s hk hs
    subst hs
    have hb1 := textOf_len (cs.take k)
    have hb2 := cntL_le toEClu cs k
    ((try conv => cbv); (repeat' (first | with_reducible exact mK hD | (with_reducible first | refine mS hD ?_ | refine mJ hL ?_ | refine mT hD ?_ | refine mF hD ?_ | refine mB hD (fun _ => ?_) (fun _ => ?_) | exact True.intro | refine And.intro ?_ ?_) <;> try conv => cbv)); all_goals try exact fx)
    · have hkn : k < cs.length := lo
      have hsn := textOf_snoc cs k hkn
      have hb3 := cntL_snoc toEClu cs dClu k hkn
      have hb4 := cntL_le toEClu cs (k + 1)
      have hx := (hc _ (getD_mem cs dClu k hkn)).1
      generalize hx' : cs.getD k dClu = x at *
      simp only [toEClu] at hb3
      refine loop_st hL x.runes.length (fun j s => s = textOf (cs.take k) ++ (x.runes.take j).flatMap enc) _ (fun j s => [(3, vO D 0 (u _ s)), (7, .bad), (5, VI (u _ j))]) (fun j s => [(0, oB D u (u _ s))]) rfl ?_ ?_
      · ((try conv => cbv); (repeat' (first | with_reducible exact mK hD | (with_reducible first | refine mS hD ?_ | refine mJ hL ?_ | refine mT hD ?_ | refine mF hD ?_ | refine mB hD (fun _ => ?_) (fun _ => ?_) | exact True.intro | refine And.intro ?_ ?_) <;> try conv => cbv)); all_goals try exact fx)
        all_goals ((subst hD hu; apply qB; (focus repeat' (first | exact LR.refl | exact LR_bytes | apply mClu | apply mCel | apply mKey | apply mSnp | apply mKRd | apply mLin | apply mHis | apply mBlk | apply mScr | apply mSes | exact zR | exact zB | exact zT | exact zN | exact zClu | exact zCel | exact zCelS | exact zSnp | exact zKey | exact zSes | exact zScr | apply LR.deq | exact LR.nil | apply LR.one | apply LR.rep | apply LR.cat | apply LR.cat' | apply LR.set | exact u8_0 | exact DEq.s _ | (apply str_deq; (repeat' apply sr_cat) <;> rfl) | apply aLe_1 | (apply LR.rfl'; simp only [uid, std, S0]; omega))); all_goals try simp only [uid, std, Int.toNat_natCast, Int.ofNat_eq_natCast]); simp)
      · intro j s hj hs
        subst hs
        have hb5 := encs_len (x.runes.take j)
        ((try conv => cbv); (repeat' (first | with_reducible exact mK hD | (with_reducible first | refine mS hD ?_ | refine mJ hL ?_ | refine mT hD ?_ | refine mF hD ?_ | refine mB hD (fun _ => ?_) (fun _ => ?_) | exact True.intro | refine And.intro ?_ ?_) <;> try conv => cbv)); all_goals try exact fx)
        · have hjn : j < x.runes.length := by ((try subst hD hu); (try simp only [nc] at *); (try simp only [Int.ofNat_eq_natCast] at *); try simp (disch := omega) only [std, uid, S0, hx'] at *); omega
          have hsj := encs_snoc x.runes j hjn
          have hr := hx _ (getD_mem x.runes 0 j hjn)
          have hel := (enc_len (x.runes.getD j 0)).1
          generalize hr' : x.runes.getD j 0 = r at *
          obtain ⟨hr1, hr2⟩ := hr
          refine callx hD hu hC (x_l1Valid r) ?_
          ((try conv => cbv); (repeat' (first | with_reducible exact mK hD | (with_reducible first | refine mS hD ?_ | refine mJ hL ?_ | refine mT hD ?_ | refine mF hD ?_ | refine mB hD (fun _ => ?_) (fun _ => ?_) | exact True.intro | refine And.intro ?_ ?_) <;> try conv => cbv)); all_goals try exact fx)
          all_goals try (((try subst hD hu); (try simp only [nc] at *); (try simp only [Int.ofNat_eq_natCast] at *); try simp (disch := omega) only [std, uid, S0, hx', hr'] at *); done)
          · have hv : validR r = true := by ((try subst hD hu); (try simp only [nc] at *); (try simp only [Int.ofNat_eq_natCast] at *); try simp (disch := omega) only [std, uid, S0] at *); assumption
            refine callx hD hu hC (x_l1Utf8 r hv) ?_
            ((try conv => cbv); (repeat' (first | with_reducible exact mK hD | (with_reducible first | refine mS hD ?_ | refine mJ hL ?_ | refine mT hD ?_ | refine mF hD ?_ | refine mB hD (fun _ => ?_) (fun _ => ?_) | exact True.intro | refine And.intro ?_ ?_) <;> try conv => cbv)); all_goals try exact fx)
            all_goals try (((try subst hD hu); (try simp only [nc] at *); (try simp only [Int.ofNat_eq_natCast] at *); try simp (disch := omega) only [std, uid, S0, hx', hr'] at *); done)
            all_goals try (((try subst hD hu); (try simp only [nc] at *); (try simp only [Int.ofNat_eq_natCast] at *); try simp (disch := omega) only [std, uid, S0] at *); simp only [List.length_append, List.length_take] at *; omega; done)
            refine ⟨j + 1, textOf (cs.take k) ++ (x.runes.take j).flatMap enc ++ enc r, hjn, by rw [hsj, List.append_assoc], ssem_of ?_, by omega⟩
            ((try conv => cbv); (repeat' (first | with_reducible exact mK hD | (with_reducible first | refine mS hD ?_ | refine mJ hL ?_ | refine mT hD ?_ | refine mF hD ?_ | refine mB hD (fun _ => ?_) (fun _ => ?_) | exact True.intro | refine And.intro ?_ ?_) <;> try conv => cbv)); all_goals try exact fx)
            (subst hD hu; apply qB; (focus repeat' (first | exact LR.refl | exact LR_bytes | apply mClu | apply mCel | apply mKey | apply mSnp | apply mKRd | apply mLin | apply mHis | apply mBlk | apply mScr | apply mSes | exact zR | exact zB | exact zT | exact zN | exact zClu | exact zCel | exact zCelS | exact zSnp | exact zKey | exact zSes | exact zScr | apply LR.deq | exact LR.nil | apply LR.one | apply LR.rep | apply LR.cat | apply LR.cat' | apply LR.set | exact u8_0 | exact DEq.s _ | (apply str_deq; (repeat' apply sr_cat) <;> rfl) | apply aLe_1 | (apply LR.rfl'; simp only [uid, std, S0]; omega))); all_goals try simp only [uid, std, Int.toNat_natCast, Int.ofNat_eq_natCast])
          · have hv : validR r = false := by ((try subst hD hu); (try simp only [nc] at *); (try simp only [Int.ofNat_eq_natCast] at *); try simp (disch := omega) only [std, uid, S0] at *); assumption
            refine callx hD hu hC (x_l1Utf8 65533 (by decide)) ?_
            rw [enc_bad hv] at hsj hel
            ((try conv => cbv); (repeat' (first | with_reducible exact mK hD | (with_reducible first | refine mS hD ?_ | refine mJ hL ?_ | refine mT hD ?_ | refine mF hD ?_ | refine mB hD (fun _ => ?_) (fun _ => ?_) | exact True.intro | refine And.intro ?_ ?_) <;> try conv => cbv)); all_goals try exact fx)
            all_goals try (((try subst hD hu); (try simp only [nc] at *); (try simp only [Int.ofNat_eq_natCast] at *); try simp (disch := omega) only [std, uid, S0] at *); simp only [List.length_append, List.length_take] at *; omega; done)
            refine ⟨j + 1, textOf (cs.take k) ++ (x.runes.take j).flatMap enc ++ enc 65533, hjn, by rw [hsj, List.append_assoc], ssem_of ?_, by omega⟩
            ((try conv => cbv); (repeat' (first | with_reducible exact mK hD | (with_reducible first | refine mS hD ?_ | refine mJ hL ?_ | refine mT hD ?_ | refine mF hD ?_ | refine mB hD (fun _ => ?_) (fun _ => ?_) | exact True.intro | refine And.intro ?_ ?_) <;> try conv => cbv)); all_goals try exact fx)
            (subst hD hu; apply qB; (focus repeat' (first | exact LR.refl | exact LR_bytes | apply mClu | apply mCel | apply mKey | apply mSnp | apply mKRd | apply mLin | apply mHis | apply mBlk | apply mScr | apply mSes | exact zR | exact zB | exact zT | exact zN | exact zClu | exact zCel | exact zCelS | exact zSnp | exact zKey | exact zSes | exact zScr | apply LR.deq | exact LR.nil | apply LR.one | apply LR.rep | apply LR.cat | apply LR.cat' | apply LR.set | exact u8_0 | exact DEq.s _ | (apply str_deq; (repeat' apply sr_cat) <;> rfl) | apply aLe_1 | (apply LR.rfl'; simp only [uid, std, S0]; omega))); all_goals try simp only [uid, std, Int.toNat_natCast, Int.ofNat_eq_natCast])
        · have e : j = x.runes.length := by ((try subst hD hu); (try simp only [nc] at *); (try simp only [Int.ofNat_eq_natCast] at *); try simp (disch := omega) only [std, uid, S0, hx'] at *); omega
          subst e
          refine ⟨k + 1, textOf (cs.take k) ++ (x.runes.take x.runes.length).flatMap enc, hkn, by rw [hsn, List.take_length], ssem_of ?_, by omega⟩
          ((try conv => cbv); (repeat' (first | with_reducible exact mK hD | (with_reducible first | refine mS hD ?_ | refine mJ hL ?_ | refine mT hD ?_ | refine mF hD ?_ | refine mB hD (fun _ => ?_) (fun _ => ?_) | exact True.intro | refine And.intro ?_ ?_) <;> try conv => cbv)); all_goals try exact fx)
    · have e : k = cs.length := lo
      subst e
      subst hD hu
      refine str_eq' ((sr_strF LR.refl).trans ?_)
      rw [show uid (List UInt8) (textOf (cs.take cs.length)) = textOf cs by rw [List.take_length]; rfl]
      rfl
end Go.AW
/- Bytes as runes, in lists. -/
set_option linter.unusedVariables false
set_option linter.unusedSimpArgs false
namespace Go.AW
def bI (s : Str) : Nat → Int := fun j => ((s.getD j 0).toNat : Int)
theorem isB_bI (s : Str) : IsB s s.length (bI s) := ⟨rfl, fun _ _ => rfl⟩
/-- The first rune of bytes, and how many bytes it takes. -/
def dec (s : Str) : Int × Nat := ((Utf8.decode (std.strB s) 0).1, (Utf8.decode (std.strB s) 0).2)
theorem dec_rune {s : Str} (h : 0 < s.length) : RuneB (bI s) s.length 0 (dec s).1 (dec s).2 := decode_B (isB_bI s) h
theorem bI_drop (s : Str) (i j : Nat) : bI (s.drop i) j = bI s (i + j) := by
  simp [bI, List.getD_eq_getElem?_getD, List.getElem?_drop]
theorem rune_drop {s : Str} {i : Nat} {r : Int} {d : Nat} (hi : i < s.length) (h : RuneB (bI (s.drop i)) (s.drop i).length 0 r d) : RuneB (bI s) s.length i r d := by
  have e : ∀ j, bI (s.drop i) j = bI s (i + j) := bI_drop s i
  have hl : (s.drop i).length = s.length - i := List.length_drop
  rw [hl] at h
  have e0 := e 0
  have e1 := e 1
  have e2 := e 2
  have e3 := e 3
  have c1 : CB (bI (s.drop i)) (0 + 1) ↔ CB (bI s) (i + 1) := by unfold CB; rw [Nat.zero_add, e1]
  have c2 : CB (bI (s.drop i)) (0 + 2) ↔ CB (bI s) (i + 2) := by unfold CB; rw [Nat.zero_add, e2]
  have c3 : CB (bI (s.drop i)) (0 + 3) ↔ CB (bI s) (i + 3) := by unfold CB; rw [Nat.zero_add, e3]
  rw [Nat.add_zero] at e0
  have w2 : v2 (bI (s.drop i)) 0 = v2 (bI s) i := by simp only [v2, Nat.zero_add, e0, e1]
  have w3 : v3 (bI (s.drop i)) 0 = v3 (bI s) i := by simp only [v3, Nat.zero_add, e0, e1, e2]
  have w4 : v4 (bI (s.drop i)) 0 = v4 (bI s) i := by simp only [v4, Nat.zero_add, e0, e1, e2, e3]
  cases h with
  | r1 h => rw [e0] at *; exact .r1 h
  | r2 h hn h1 hm => rw [e0] at *; rw [w2] at *; exact .r2 h (by omega) (c1.mp h1) hm
  | r3 h hn h1 h2 hm hv => rw [e0] at *; rw [w3] at *; exact .r3 h (by omega) (c1.mp h1) (c2.mp h2) hm hv
  | r4 h hn h1 h2 h3 hm hv => rw [e0] at *; rw [w4] at *; exact .r4 h (by omega) (c1.mp h1) (c2.mp h2) (c3.mp h3) hm hv
  | no h1 h2 h3 h4 =>
    rw [e0, w2] at h2
    rw [e0, w3] at h3
    rw [e0, w4] at h4
    rw [e0] at h1
    exact .no h1 (fun a b c d => h2 a b (by omega) (c1.mpr d)) (fun a b c d e => h3 a b (by omega) (c1.mpr d) (c2.mpr e)) (fun a b c d e f => h4 a b (by omega) (c1.mpr d) (c2.mpr e) (c3.mpr f))
theorem dec_drop {s : Str} {i : Nat} (hi : i < s.length) : RuneB (bI s) s.length i (dec (s.drop i)).1 (dec (s.drop i)).2 :=
  rune_drop hi (dec_rune (by rw [List.length_drop]; omega))
/-- The decoder at a place. -/
theorem dec_at {s : Str} {i : Nat} (hi : i < s.length) : ((Utf8.decode (std.strB s) i).1 : Int) = (dec (s.drop i)).1 ∧ (Utf8.decode (std.strB s) i).2 = (dec (s.drop i)).2 :=
  RuneB.uniq (decode_B (isB_bI s) hi) (dec_drop hi)
theorem dec_width {s : Str} (h : 0 < s.length) : 1 ≤ (dec s).2 ∧ (dec s).2 ≤ 4 ∧ (dec s).2 ≤ s.length := by
  have := (dec_rune h).width h
  omega
theorem dec_range {s : Str} (h : 0 < s.length) : 0 ≤ (dec s).1 ∧ (dec s).1 ≤ 1114111 :=
  (dec_rune h).range ((isB_bI s).range 0 h)
/-- Bytes as runes. -/
def runesOf (s : Str) : List Int :=
  if h : 0 < s.length then (dec s).1 :: runesOf (s.drop (dec s).2) else []
termination_by s.length
decreasing_by rw [List.length_drop]; have := dec_width h; omega
theorem runesOf_nil : runesOf [] = [] := by rw [runesOf]; rfl
theorem runesOf_cons {s : Str} (h : 0 < s.length) : runesOf s = (dec s).1 :: runesOf (s.drop (dec s).2) := by rw [runesOf, dif_pos h]
theorem runesOf_len (s : Str) : (runesOf s).length ≤ s.length := by
  rcases Nat.eq_zero_or_pos s.length with h | h
  · rw [List.length_eq_zero_iff.mp h, runesOf_nil]; simp
  · rw [runesOf_cons h]
    have := dec_width h
    have := runesOf_len (s.drop (dec s).2)
    rw [List.length_drop] at this
    simp only [List.length_cons]
    omega
termination_by s.length
decreasing_by rw [List.length_drop]; have := dec_width h; omega
def tabR (r : Int) : Int := if r = 9 then 32 else r
def clean (s : Str) : List Int := (runesOf s).map fun r => shownR (tabR r)
theorem clean_nil : clean [] = [] := by rw [clean, runesOf_nil]; rfl
theorem clean_cons {s : Str} (h : 0 < s.length) : clean s = shownR (tabR (dec s).1) :: clean (s.drop (dec s).2) := by rw [clean, runesOf_cons h]; rfl
theorem clean_len (s : Str) : (clean s).length ≤ s.length := by simpa [clean] using runesOf_len s
theorem shown_range (r : Int) : 0 ≤ shownR r ∧ shownR r ≤ 1114111 := by
  unfold shownR
  split
  · rename_i h; have := (valid_iff r).mp h.1; omega
  · omega
end Go.AW
/- Clean on both sides. -/
set_option linter.unusedVariables false
set_option linter.unusedSimpArgs false
namespace Go.AW
open Go.Proofs
set_option maxRecDepth 100000
set_option maxHeartbeats 4000000
theorem x_l1Rune (b : Str) (i : Nat) (hi : i < b.length) (hn : b.length ≤ 1099511627776) : PX Try.prog 154 (fun D u => [.r (.c (lB D u (u _ b))), AI (u _ i)]) (fun D u => [RI (u _ ((dec (b.drop i)).1)), RI (u _ ((dec (b.drop i)).2))]) (fun D u => []) :=
  px_of (con_l1Rune b.length (bI b) i _ _ (fun j hj => (isB_bI b).range j hj) hi hn (dec_drop hi))
theorem x_l1Shown (r : Int) : PX Try.prog 152 (fun D u => [AI (u _ r)]) (fun D u => [RI (u _ (shownR r))]) (fun D u => []) := px_of (con_l1Shown r _ rfl)
theorem x_shown (r : Int) : PX Try.prog 155 (fun D u => [AK .i32 (u _ r)]) (fun D u => [RK .i32 (u _ (shownR r))]) (fun D u => []) := px_of (con_shown r _ rfl)
structure ClI (b : Str) (s : Nat × List Int) : Prop where
  h1 : s.1 ≤ b.length
  h2 : s.2 ++ clean (b.drop s.1) = clean b
  h3 : s.2.length ≤ s.1
theorem ClI.step {b : Str} {s : Nat × List Int} (h : ClI b s) (hi : s.1 < b.length) : ClI b (s.1 + (dec (b.drop s.1)).2, s.2 ++ [shownR (tabR (dec (b.drop s.1)).1)]) := by
  have hp : 0 < (b.drop s.1).length := by rw [List.length_drop]; omega
  have hw := dec_width hp
  rw [List.length_drop] at hw
  refine ⟨by simp only; omega, ?_, by simp only [List.length_append, List.length_cons, List.length_nil]; have := h.h3; omega⟩
  rw [← h.h2, clean_cons hp, List.drop_drop]
  simp
theorem ClI.fin {b : Str} {s : Nat × List Int} (h : ClI b s) (hi : ¬ s.1 < b.length) : s.2 = clean b := by
  have := h.h2
  rw [List.drop_eq_nil_of_le (by omega), clean_nil, List.append_nil] at this
  exact this
theorem x_specClean (b : Str) (hn : b.length ≤ 1000000000) : PX Try.prog 115 (fun D u => [.r (.c (lB D u (u _ b)))]) (fun D u => [.c (lR D u (u _ (clean b)))]) (fun D u => []) := by
  refine px_of_awp (fn := Try.f115) (c := bodyOf Try.f115) envOk (by kernel_rfl) (by kernel_rfl) (by kernel_rfl) (by kernel_rfl) rfl (by kernel_rfl) (by kernel_rfl) ?_
  intro w0 mine D u C L hD hu hC hL
  ((try conv => cbv); (repeat' (first | with_reducible exact mK hD | (with_reducible first | refine mS hD ?_ | refine mJ hL ?_ | refine mT hD ?_ | refine mF hD ?_ | refine mB hD (fun _ => ?_) (fun _ => ?_) | exact True.intro | refine And.intro ?_ ?_) <;> try conv => cbv)); all_goals try exact fx)
  refine loop_mu hL (ClI b) (fun s => b.length - s.1) (0, []) (fun s => [(3, vO D 0 (u _ (s.2))), (7, .bad), (4, VI (u _ (s.1)))]) (fun s => [(0, oR D u (u _ (s.2)))]) ⟨by simp, by simp, by simp⟩ ?_ ?_
  · ((try conv => cbv); (repeat' (first | with_reducible exact mK hD | (with_reducible first | refine mS hD ?_ | refine mJ hL ?_ | refine mT hD ?_ | refine mF hD ?_ | refine mB hD (fun _ => ?_) (fun _ => ?_) | exact True.intro | refine And.intro ?_ ?_) <;> try conv => cbv)); all_goals try exact fx)
    (subst hD hu; apply qR; (focus repeat' (first | exact LR.refl | exact LR_bytes | apply mClu | apply mCel | apply mKey | apply mSnp | apply mKRd | apply mLin | apply mHis | apply mBlk | apply mScr | apply mSes | exact zR | exact zB | exact zT | exact zN | exact zClu | exact zCel | exact zCelS | exact zSnp | exact zKey | exact zSes | exact zScr | apply LR.deq | exact LR.nil | apply LR.one | apply LR.rep | apply LR.cat | apply LR.cat' | apply LR.set | exact u8_0 | exact DEq.s _ | (apply str_deq; (repeat' apply sr_cat) <;> rfl) | apply aLe_1 | (apply LR.rfl'; simp only [uid, std, S0]; omega))); all_goals try simp only [uid, std, Int.toNat_natCast, Int.ofNat_eq_natCast])
  · intro s hs
    have h1 := hs.h1
    have h3 := hs.h3
    ((try conv => cbv); (repeat' (first | with_reducible exact mK hD | (with_reducible first | refine mS hD ?_ | refine mJ hL ?_ | refine mT hD ?_ | refine mF hD ?_ | refine mB hD (fun _ => ?_) (fun _ => ?_) | exact True.intro | refine And.intro ?_ ?_) <;> try conv => cbv)); all_goals try exact fx)
    · have hi : s.1 < b.length := lo
      have hp : 0 < (b.drop s.1).length := by rw [List.length_drop]; omega
      have hw := dec_width hp
      have hr := dec_range hp
      rw [List.length_drop] at hw
      have hst := hs.step hi
      generalize hd : dec (b.drop s.1) = d at *
      refine callx hD hu hC (x_l1Rune b s.1 hi (by omega)) ?_
      rw [hd]
      ((try conv => cbv); (repeat' (first | with_reducible exact mK hD | (with_reducible first | refine mS hD ?_ | refine mJ hL ?_ | refine mT hD ?_ | refine mF hD ?_ | refine mB hD (fun _ => ?_) (fun _ => ?_) | exact True.intro | refine And.intro ?_ ?_) <;> try conv => cbv)); all_goals try exact fx)
      · have he : d.1 = 9 := lo
        have hsr := shown_range 32
        refine callx hD hu hC (x_l1Shown 32) ?_
        ((try conv => cbv); (repeat' (first | with_reducible exact mK hD | (with_reducible first | refine mS hD ?_ | refine mJ hL ?_ | refine mT hD ?_ | refine mF hD ?_ | refine mB hD (fun _ => ?_) (fun _ => ?_) | exact True.intro | refine And.intro ?_ ?_) <;> try conv => cbv)); all_goals try exact fx)
        refine ⟨(s.1 + d.2, s.2 ++ [shownR (tabR d.1)]), hst, ssem_of ?_, by simp only; omega⟩
        ((try conv => cbv); (repeat' (first | with_reducible exact mK hD | (with_reducible first | refine mS hD ?_ | refine mJ hL ?_ | refine mT hD ?_ | refine mF hD ?_ | refine mB hD (fun _ => ?_) (fun _ => ?_) | exact True.intro | refine And.intro ?_ ?_) <;> try conv => cbv)); all_goals try exact fx)
        (subst hD hu; apply qR; (focus repeat' (first | exact LR.refl | exact LR_bytes | apply mClu | apply mCel | apply mKey | apply mSnp | apply mKRd | apply mLin | apply mHis | apply mBlk | apply mScr | apply mSes | exact zR | exact zB | exact zT | exact zN | exact zClu | exact zCel | exact zCelS | exact zSnp | exact zKey | exact zSes | exact zScr | apply LR.deq | exact LR.nil | apply LR.one | apply LR.rep | apply LR.cat | apply LR.cat' | apply LR.set | exact u8_0 | exact DEq.s _ | (apply str_deq; (repeat' apply sr_cat) <;> rfl) | apply aLe_1 | (apply LR.rfl'; simp only [uid, std, S0]; omega))); all_goals try simp only [uid, std, Int.toNat_natCast, Int.ofNat_eq_natCast])
        rw [wrapI32 _ (by omega), tabR, if_pos he]
      · have he : d.1 ≠ 9 := lo
        have hsr := shown_range d.1
        refine callx hD hu hC (x_l1Shown d.1) ?_
        ((try conv => cbv); (repeat' (first | with_reducible exact mK hD | (with_reducible first | refine mS hD ?_ | refine mJ hL ?_ | refine mT hD ?_ | refine mF hD ?_ | refine mB hD (fun _ => ?_) (fun _ => ?_) | exact True.intro | refine And.intro ?_ ?_) <;> try conv => cbv)); all_goals try exact fx)
        refine ⟨(s.1 + d.2, s.2 ++ [shownR (tabR d.1)]), hst, ssem_of ?_, by simp only; omega⟩
        ((try conv => cbv); (repeat' (first | with_reducible exact mK hD | (with_reducible first | refine mS hD ?_ | refine mJ hL ?_ | refine mT hD ?_ | refine mF hD ?_ | refine mB hD (fun _ => ?_) (fun _ => ?_) | exact True.intro | refine And.intro ?_ ?_) <;> try conv => cbv)); all_goals try exact fx)
        (subst hD hu; apply qR; (focus repeat' (first | exact LR.refl | exact LR_bytes | apply mClu | apply mCel | apply mKey | apply mSnp | apply mKRd | apply mLin | apply mHis | apply mBlk | apply mScr | apply mSes | exact zR | exact zB | exact zT | exact zN | exact zClu | exact zCel | exact zCelS | exact zSnp | exact zKey | exact zSes | exact zScr | apply LR.deq | exact LR.nil | apply LR.one | apply LR.rep | apply LR.cat | apply LR.cat' | apply LR.set | exact u8_0 | exact DEq.s _ | (apply str_deq; (repeat' apply sr_cat) <;> rfl) | apply aLe_1 | (apply LR.rfl'; simp only [uid, std, S0]; omega))); all_goals try simp only [uid, std, Int.toNat_natCast, Int.ofNat_eq_natCast])
        rw [wrapI32 _ (by omega), tabR, if_neg he]
    · have he := hs.fin lo
      ((try subst hD hu); (try simp only [nc] at *); (try simp only [Int.ofNat_eq_natCast] at *); try simp (disch := omega) only [std, uid, S0, he] at *)
    · have he := hs.fin lo
      (subst hD hu; apply qR; (focus repeat' (first | exact LR.refl | exact LR_bytes | apply mClu | apply mCel | apply mKey | apply mSnp | apply mKRd | apply mLin | apply mHis | apply mBlk | apply mScr | apply mSes | exact zR | exact zB | exact zT | exact zN | exact zClu | exact zCel | exact zCelS | exact zSnp | exact zKey | exact zSes | exact zScr | apply LR.deq | exact LR.nil | apply LR.one | apply LR.rep | apply LR.cat | apply LR.cat' | apply LR.set | exact u8_0 | exact DEq.s _ | (apply str_deq; (repeat' apply sr_cat) <;> rfl) | apply aLe_1 | (apply LR.rfl'; simp only [uid, std, S0]; omega))); all_goals try simp only [uid, std, Int.toNat_natCast, Int.ofNat_eq_natCast])
      exact he
theorem x_implClean (b : Str) (hn : b.length ≤ 1000000000) : PX Try.prog 120 (fun D u => [.r (.c (lB D u (u _ b)))]) (fun D u => [.c (lR D u (u _ (clean b)))]) (fun D u => []) := by
  refine px_of_awp (fn := Try.f120) (c := bodyOf Try.f120) envOk (by kernel_rfl) (by kernel_rfl) (by kernel_rfl) (by kernel_rfl) rfl (by kernel_rfl) (by kernel_rfl) ?_
  intro w0 mine D u C L hD hu hC hL
  ((try conv => cbv); (repeat' (first | with_reducible exact mK hD | (with_reducible first | refine mS hD ?_ | refine mJ hL ?_ | refine mT hD ?_ | refine mF hD ?_ | refine mB hD (fun _ => ?_) (fun _ => ?_) | exact True.intro | refine And.intro ?_ ?_) <;> try conv => cbv)); all_goals try exact fx)
  refine loop_mu hL (ClI b) (fun s => b.length - s.1) (0, []) (fun s => [(3, vO D 0 (u _ (s.2))), (8, .bad), (10, .bad)]) (fun s => [(1, .it (D.strB (u _ b)) (u _ (s.1))), (0, oR D u (u _ (s.2)))]) ⟨by simp, by simp, by simp⟩ ?_ ?_
  · ((try conv => cbv); (repeat' (first | with_reducible exact mK hD | (with_reducible first | refine mS hD ?_ | refine mJ hL ?_ | refine mT hD ?_ | refine mF hD ?_ | refine mB hD (fun _ => ?_) (fun _ => ?_) | exact True.intro | refine And.intro ?_ ?_) <;> try conv => cbv)); all_goals try exact fx)
    subst hD hu
    exact sr_strF LR.refl
  · intro s hs
    have h1 := hs.h1
    have h3 := hs.h3
    ((try conv => cbv); (repeat' (first | with_reducible exact mK hD | (with_reducible first | refine mS hD ?_ | refine mJ hL ?_ | refine mT hD ?_ | refine mF hD ?_ | refine mB hD (fun _ => ?_) (fun _ => ?_) | exact True.intro | refine And.intro ?_ ?_) <;> try conv => cbv)); all_goals try exact fx)
    · have hi : s.1 < b.length := lo
      have hp : 0 < (b.drop s.1).length := by rw [List.length_drop]; omega
      have hw := dec_width hp
      have hr := dec_range hp
      rw [List.length_drop] at hw
      have hst := hs.step hi
      obtain ⟨hda1, hda2⟩ := dec_at hi
      generalize hd : dec (b.drop s.1) = d at *
      have he : d.1 = 9 := lo
      refine callx hD hu hC (x_shown (32)) ?_
      ((try conv => cbv); (repeat' (first | with_reducible exact mK hD | (with_reducible first | refine mS hD ?_ | refine mJ hL ?_ | refine mT hD ?_ | refine mF hD ?_ | refine mB hD (fun _ => ?_) (fun _ => ?_) | exact True.intro | refine And.intro ?_ ?_) <;> try conv => cbv)); all_goals try exact fx)
      refine ⟨(s.1 + d.2, s.2 ++ [shownR (tabR d.1)]), hst, ssem_of ?_, by simp only; omega⟩
      ((try conv => cbv); (repeat' (first | with_reducible exact mK hD | (with_reducible first | refine mS hD ?_ | refine mJ hL ?_ | refine mT hD ?_ | refine mF hD ?_ | refine mB hD (fun _ => ?_) (fun _ => ?_) | exact True.intro | refine And.intro ?_ ?_) <;> try conv => cbv)); all_goals try exact fx)
      (subst hD hu; apply qR; (focus repeat' (first | exact LR.refl | exact LR_bytes | apply mClu | apply mCel | apply mKey | apply mSnp | apply mKRd | apply mLin | apply mHis | apply mBlk | apply mScr | apply mSes | exact zR | exact zB | exact zT | exact zN | exact zClu | exact zCel | exact zCelS | exact zSnp | exact zKey | exact zSes | exact zScr | apply LR.deq | exact LR.nil | apply LR.one | apply LR.rep | apply LR.cat | apply LR.cat' | apply LR.set | exact u8_0 | exact DEq.s _ | (apply str_deq; (repeat' apply sr_cat) <;> rfl) | apply aLe_1 | (apply LR.rfl'; simp only [uid, std, S0]; omega))); all_goals try simp only [uid, std, Int.toNat_natCast, Int.ofNat_eq_natCast])
      rw [tabR, if_pos he]
    · have hi : s.1 < b.length := lo
      have hp : 0 < (b.drop s.1).length := by rw [List.length_drop]; omega
      have hw := dec_width hp
      have hr := dec_range hp
      rw [List.length_drop] at hw
      have hst := hs.step hi
      obtain ⟨hda1, hda2⟩ := dec_at hi
      generalize hd : dec (b.drop s.1) = d at *
      have he : d.1 ≠ 9 := lo
      refine callx hD hu hC (x_shown (d.1)) ?_
      ((try conv => cbv); (repeat' (first | with_reducible exact mK hD | (with_reducible first | refine mS hD ?_ | refine mJ hL ?_ | refine mT hD ?_ | refine mF hD ?_ | refine mB hD (fun _ => ?_) (fun _ => ?_) | exact True.intro | refine And.intro ?_ ?_) <;> try conv => cbv)); all_goals try exact fx)
      refine ⟨(s.1 + d.2, s.2 ++ [shownR (tabR d.1)]), hst, ssem_of ?_, by simp only; omega⟩
      ((try conv => cbv); (repeat' (first | with_reducible exact mK hD | (with_reducible first | refine mS hD ?_ | refine mJ hL ?_ | refine mT hD ?_ | refine mF hD ?_ | refine mB hD (fun _ => ?_) (fun _ => ?_) | exact True.intro | refine And.intro ?_ ?_) <;> try conv => cbv)); all_goals try exact fx)
      (subst hD hu; apply qR; (focus repeat' (first | exact LR.refl | exact LR_bytes | apply mClu | apply mCel | apply mKey | apply mSnp | apply mKRd | apply mLin | apply mHis | apply mBlk | apply mScr | apply mSes | exact zR | exact zB | exact zT | exact zN | exact zClu | exact zCel | exact zCelS | exact zSnp | exact zKey | exact zSes | exact zScr | apply LR.deq | exact LR.nil | apply LR.one | apply LR.rep | apply LR.cat | apply LR.cat' | apply LR.set | exact u8_0 | exact DEq.s _ | (apply str_deq; (repeat' apply sr_cat) <;> rfl) | apply aLe_1 | (apply LR.rfl'; simp only [uid, std, S0]; omega))); all_goals try simp only [uid, std, Int.toNat_natCast, Int.ofNat_eq_natCast])
      rw [tabR, if_neg he]
    · have he := hs.fin lo
      ((try subst hD hu); (try simp only [nc] at *); (try simp only [Int.ofNat_eq_natCast] at *); try simp (disch := omega) only [std, uid, S0, he] at *)
    · have he := hs.fin lo
      (subst hD hu; apply qR; (focus repeat' (first | exact LR.refl | exact LR_bytes | apply mClu | apply mCel | apply mKey | apply mSnp | apply mKRd | apply mLin | apply mHis | apply mBlk | apply mScr | apply mSes | exact zR | exact zB | exact zT | exact zN | exact zClu | exact zCel | exact zCelS | exact zSnp | exact zKey | exact zSes | exact zScr | apply LR.deq | exact LR.nil | apply LR.one | apply LR.rep | apply LR.cat | apply LR.cat' | apply LR.set | exact u8_0 | exact DEq.s _ | (apply str_deq; (repeat' apply sr_cat) <;> rfl) | apply aLe_1 | (apply LR.rfl'; simp only [uid, std, S0]; omega))); all_goals try simp only [uid, std, Int.toNat_natCast, Int.ofNat_eq_natCast])
      exact he
end Go.AW
/- Clusters in lists. -/
set_option linter.unusedVariables false
set_option linter.unusedSimpArgs false
namespace Go.AW
open Go.Proofs
set_option maxRecDepth 100000
set_option maxHeartbeats 4000000
theorem x_implRuneWidth (r : Int) : PX Try.prog 156 (fun D u => [AK .i32 (u _ r)]) (fun D u => [RI (u _ (runeWidth r))]) (fun D u => []) := px_of (con_implRuneWidth r _ rfl)
theorem x_specRuneWidth (r : Int) (hr : okR r) : PX Try.prog 153 (fun D u => [AK .i32 (u _ r)]) (fun D u => [RI (u _ (runeWidth r))]) (fun D u => []) := px_of (con_specRuneWidth r _ hr rfl)
theorem runeWidth_range (r : Int) : 0 ≤ runeWidth r ∧ runeWidth r ≤ 2 := by
  unfold runeWidth
  split
  · omega
  · split <;> omega
/-- A rune behind clusters. -/
def addRune (out : List Clu) (v : Int) : List Clu :=
  if 0 < runeWidth (shownR v) then out ++ [⟨[shownR v], runeWidth (shownR v)⟩]
  else if out = [] then [⟨[9676, shownR v], 1⟩]
  else out.set (out.length - 1) { out.getD (out.length - 1) dClu with runes := (out.getD (out.length - 1) dClu).runes ++ [shownR v] }
def clusters (rs : List Int) : List Clu := rs.foldl addRune []
theorem clusters_snoc (rs : List Int) (k : Nat) (h : k < rs.length) : clusters (rs.take (k + 1)) = addRune (clusters (rs.take k)) (rs.getD k 0) := by
  rw [take_snoc rs 0 k h]
  simp [clusters]
theorem addRune_len (out : List Clu) (v : Int) : (addRune out v).length ≤ out.length + 1 := by
  unfold addRune
  split
  · simp
  · split
    · simp
    · simp
theorem foldl_take_len (rs : List Int) (k : Nat) : (clusters (rs.take k)).length ≤ k := by
  induction k with
  | zero => simp [clusters]
  | succ k ih =>
    rcases Nat.lt_or_ge k rs.length with h | h
    · rw [clusters_snoc rs k h]
      have := addRune_len (clusters (rs.take k)) (rs.getD k 0)
      omega
    · rw [List.take_of_length_le (by omega)]
      rw [List.take_of_length_le (by omega)] at ih
      omega
theorem cntL_append {α : Type} (c : α → Nat) (a b : List α) : cntL c (a ++ b) = cntL c a + cntL c b := by simp [cntL]
theorem cntL_set {α : Type} (c : α → Nat) (d : α) : ∀ (l : List α) (k : Nat) (x : α), k < l.length → cntL c (l.set k x) + c (l.getD k d) = cntL c l + c x
  | [], k, x, h => by simp at h
  | y :: l, 0, x, h => by simp [cntL]; omega
  | y :: l, k + 1, x, h => by
    have := cntL_set c d l k x (by simpa using h)
    simp only [cntL, List.set_cons_succ, List.map_cons, List.sum_cons, List.getD_cons_succ] at *
    omega
theorem addRune_cnt (out : List Clu) (v : Int) : cntL toEClu (addRune out v) ≤ cntL toEClu out + 1 ∨ (out = [] ∧ cntL toEClu (addRune out v) ≤ 2) := by
  unfold addRune
  split
  · left; rw [cntL_append]; simp [cntL, toEClu]
  · split
    · right; rename_i h; exact ⟨h, by simp [cntL, toEClu]⟩
    · left
      rename_i h
      have hp : 0 < out.length := List.length_pos_iff.mpr h
      have := cntL_set toEClu dClu out (out.length - 1) { out.getD (out.length - 1) dClu with runes := (out.getD (out.length - 1) dClu).runes ++ [shownR v] } (by omega)
      simp only [toEClu, List.length_append, List.length_cons, List.length_nil] at this ⊢
      omega
theorem addRune_ne (out : List Clu) (v : Int) : addRune out v ≠ [] := by
  unfold addRune
  split
  · simp
  · split
    · simp
    · rename_i h
      intro h2
      have := congrArg List.length h2
      rw [List.length_set] at this
      exact h (List.length_eq_zero_iff.mp this)
theorem clusters_cnt (rs : List Int) : ∀ (out : List Clu), cntL toEClu (rs.foldl addRune out) ≤ cntL toEClu out + rs.length + (if out = [] then 1 else 0) := by
  induction rs with
  | nil => intro out; simp only [List.foldl_nil, List.length_nil]; omega
  | cons v rs ih =>
    intro out
    have h1 := ih (addRune out v)
    rw [if_neg (addRune_ne out v)] at h1
    simp only [List.foldl_cons, List.length_cons]
    rcases addRune_cnt out v with h2 | ⟨rfl, h2⟩
    · split <;> omega
    · have : cntL toEClu ([] : List Clu) = 0 := rfl
      rw [if_pos rfl]; omega
theorem clusters_tot (rs : List Int) : totL toEClu (clusters rs) ≤ 2 * rs.length + 1 := by
  have h1 := clusters_cnt rs []
  have h2 := foldl_take_len rs rs.length
  rw [List.take_length] at h2
  have : cntL toEClu ([] : List Clu) = 0 := rfl
  rw [if_pos rfl] at h1
  simp only [totL]
  unfold clusters at *
  omega
theorem okI_small {n : Int} (h : 0 ≤ n ∧ n ≤ 1000000) : okI n := by unfold okI; omega
theorem okR_shown (v : Int) : okR (shownR v) := by have := shown_range v; unfold okR; omega
theorem addRune_ok {out : List Clu} (v : Int) (h : ∀ c, c ∈ out → okClu c) : ∀ c, c ∈ addRune out v → okClu c := by
  unfold addRune
  have hw := runeWidth_range (shownR v)
  split
  · intro c hc
    rcases List.mem_append.mp hc with hc | hc
    · exact h c hc
    · rw [List.mem_singleton.mp hc]
      exact ⟨fun r hr => by rw [List.mem_singleton.mp hr]; exact okR_shown v, okI_small (by simp only; omega)⟩
  · split
    · intro c hc
      rw [List.mem_singleton.mp hc]
      refine ⟨fun r hr => ?_, okI_small (by simp only; omega)⟩
      rcases List.mem_cons.mp hr with rfl | hr
      · unfold okR; omega
      · rw [List.mem_singleton.mp hr]; exact okR_shown v
    · rename_i hne
      intro c hc
      have hp : 0 < out.length := List.length_pos_iff.mpr hne
      have hm := h _ (getD_mem out dClu (out.length - 1) (by omega))
      rcases List.mem_or_eq_of_mem_set hc with hc | rfl
      · exact h c hc
      · refine ⟨fun r hr => ?_, hm.2⟩
        rcases List.mem_append.mp hr with hr | hr
        · exact hm.1 r hr
        · rw [List.mem_singleton.mp hr]; exact okR_shown v
theorem clusters_ok (rs : List Int) : ∀ c, c ∈ clusters rs → okClu c := by
  have : ∀ (rs : List Int) (out : List Clu), (∀ c, c ∈ out → okClu c) → ∀ c, c ∈ rs.foldl addRune out → okClu c := by
    intro rs
    induction rs with
    | nil => intro out h; exact h
    | cons v rs ih => intro out h; exact ih _ (addRune_ok v h)
  exact this rs [] (fun c hc => by simp at hc)
end Go.AW
