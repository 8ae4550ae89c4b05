/- Plain words: bytes, runes, clusters as lists; how they lie in rows. -/
import Derived.Test.YtfidphaoddenlaaAw29
set_option linter.unusedVariables false
set_option linter.unusedSimpArgs false
namespace Go.AW

/-- Rows, cell by cell. -/
theorem deq_all {sz n : Nat} {f f' : Nat → List DV} (h : ∀ i, i < n → allLe DEq (f i) (f' i)) : DEq (.l sz n f) (.l sz n f') :=
  .l sz n f f' (fun i hi => (allLe_get (h i hi)).1) fun i j d d' hi h1 h2 => by
    obtain ⟨e, he, h3⟩ := (allLe_get (h i hi)).2 j d' h2
    rw [h1] at he; cases he; exact h3
theorem deq_set {sz n k : Nat} {f f' : Nat → List DV} {kk : Nat} {row : List DV} (ek : kk = k) (h1 : allLe DEq row (f' k)) (h2 : ∀ i, i < n → i ≠ k → allLe DEq (f i) (f' i)) : DEq (.l sz n (std.setF f kk row)) (.l sz n f') := by
  subst ek
  refine deq_all fun i hi => ?_
  simp only [std]
  split
  · rename_i e; subst e; exact h1
  · rename_i e; exact h2 i hi e
theorem deq_l {sz n n' : Nat} {f f' : Nat → List DV} (hn : n = n') (h : ∀ i, i < n → f i = f' i) : DEq (.l sz n f) (.l sz n' f') := by
  subst hn; exact deq_rows h
theorem deq_s {k : IntKind} {a b : Int} (h : a = b) : DEq (.s (.int k a)) (.s (.int k b)) := by rw [h]; exact .s _
theorem deq_str {a b : ByteArray} (h : a = b) : DEq (.s (.string a)) (.s (.string b)) := by rw [h]; exact .s _
theorem deq_bool {a b : Bool} (h : a = b) : DEq (.s (.bool a)) (.s (.bool b)) := by rw [h]; exact .s _
theorem deq_z {sz n : Nat} {f f' : Nat → List DV} (h : n = 0) : DEq (.l 0 0 f) (.l sz n f') := by rw [h]; exact .z _ _ _
/-! ### Lists in rows -/
def IsB (l : List UInt8) (n : Nat) (B : Nat → Int) : Prop := n = l.length ∧ ∀ i, i < n → B i = ((l.getD i 0).toNat : Int)
def IsI (l : List Int) (n : Nat) (g : Nat → Int) : Prop := n = l.length ∧ ∀ i, i < n → g i = l.getD i 0
def IsS (l : List ByteArray) (n : Nat) (g : Nat → ByteArray) : Prop := n = l.length ∧ ∀ i, i < n → g i = l.getD i ByteArray.empty
theorem isB_fam {ι : Type} (out : ι → List UInt8) : ∃ (N : ι → Nat) (B : ι → Nat → Int), ∀ x, IsB (out x) (N x) (B x) := ⟨fun x => (out x).length, fun x i => (((out x).getD i 0).toNat : Int), fun x => ⟨rfl, fun i _ => rfl⟩⟩
theorem isI_fam {ι : Type} (out : ι → List Int) : ∃ (N : ι → Nat) (B : ι → Nat → Int), ∀ x, IsI (out x) (N x) (B x) := ⟨fun x => (out x).length, fun x i => (out x).getD i 0, fun x => ⟨rfl, fun i _ => rfl⟩⟩
theorem isS_fam {ι : Type} (out : ι → List ByteArray) : ∃ (N : ι → Nat) (B : ι → Nat → ByteArray), ∀ x, IsS (out x) (N x) (B x) := ⟨fun x => (out x).length, fun x i => (out x).getD i ByteArray.empty, fun x => ⟨rfl, fun i _ => rfl⟩⟩
theorem isB_ex (l : List UInt8) : ∃ n B, IsB l n B := ⟨_, _, rfl, fun i _ => rfl⟩
theorem isI_ex (l : List Int) : ∃ n B, IsI l n B := ⟨_, _, rfl, fun i _ => rfl⟩
theorem isS_ex (l : List ByteArray) : ∃ n B, IsS l n B := ⟨_, _, rfl, fun i _ => rfl⟩
theorem isB_nil {B : Nat → Int} : IsB [] 0 B := ⟨rfl, fun i hi => absurd hi (Nat.not_lt_zero i)⟩
theorem IsB.uniq {l : List UInt8} {n n' : Nat} {B B' : Nat → Int} (h : IsB l n B) (h' : IsB l n' B') : n = n' ∧ ∀ i, i < n → B i = B' i := by
  have e : n = n' := by rw [h.1, h'.1]
  exact ⟨e, fun i hi => by rw [h.2 i hi, h'.2 i (e ▸ hi)]⟩
theorem IsI.uniq {l : List Int} {n n' : Nat} {B B' : Nat → Int} (h : IsI l n B) (h' : IsI l n' B') : n = n' ∧ ∀ i, i < n → B i = B' i := by
  have e : n = n' := by rw [h.1, h'.1]
  exact ⟨e, fun i hi => by rw [h.2 i hi, h'.2 i (e ▸ hi)]⟩
theorem IsS.uniq {l : List ByteArray} {n n' : Nat} {B B' : Nat → ByteArray} (h : IsS l n B) (h' : IsS l n' B') : n = n' ∧ ∀ i, i < n → B i = B' i := by
  have e : n = n' := by rw [h.1, h'.1]
  exact ⟨e, fun i hi => by rw [h.2 i hi, h'.2 i (e ▸ hi)]⟩
theorem IsB.deq {l : List UInt8} {n n' : Nat} {B B' : Nat → Int} (h : IsB l n B) (h' : IsB l n' B') : n = n' ∧ DEq (dI .u8 n B) (dI .u8 n' B') := by
  obtain ⟨rfl, h2⟩ := h.uniq h'
  exact ⟨rfl, deq_I h2⟩
theorem IsI.deq {k : IntKind} {l : List Int} {n n' : Nat} {B B' : Nat → Int} (h : IsI l n B) (h' : IsI l n' B') : n = n' ∧ DEq (dI k n B) (dI k n' B') := by
  obtain ⟨rfl, h2⟩ := h.uniq h'
  exact ⟨rfl, deq_I h2⟩
theorem IsS.deq {l : List ByteArray} {n n' : Nat} {B B' : Nat → ByteArray} (h : IsS l n B) (h' : IsS l n' B') : n = n' ∧ DEq (dS n B) (dS n' B') := by
  obtain ⟨rfl, h2⟩ := h.uniq h'
  exact ⟨rfl, deq_S h2⟩
theorem IsB.range {l : List UInt8} {n : Nat} {B : Nat → Int} (h : IsB l n B) (i : Nat) (hi : i < n) : 0 ≤ B i ∧ B i ≤ 255 := by
  rw [h.2 i hi]
  have := (l.getD i 0).toNat_lt
  omega
theorem getD_append {α : Type} (l m : List α) (d : α) (i : Nat) : (l ++ m).getD i d = if i < l.length then l.getD i d else m.getD (i - l.length) d := by
  simp only [List.getD_eq_getElem?_getD]
  split
  · rw [List.getElem?_append_left (by assumption)]
  · rw [List.getElem?_append_right (by omega)]
/-- Rows appended. -/
theorem deq_cat {n m n' : Nat} {f g h : Nat → List DV} (hn : n + m = n') (h1 : ∀ i, i < n → f i = h i) (h2 : ∀ i, i < m → g i = h (n + i)) : DEq (.l 1 (n + m) (std.catF n f m g)) (.l 1 n' h) := by
  subst hn
  refine deq_rows fun i hi => ?_
  simp only [std]
  split
  · rw [h2 _ (by omega)]
    congr 1
    omega
  · exact h1 i (by omega)
theorem deq_cat2 {sz n m n' : Nat} {f g h : Nat → List DV} (hn : n + m = n') (h1 : ∀ i, i < n → f i = h i) (h2 : ∀ i, i < m → g i = h (n + i)) : DEq (.l sz (n + m) (std.catF n f m g)) (.l sz n' h) := by
  subst hn
  refine deq_rows fun i hi => ?_
  simp only [std]
  split
  · rw [h2 _ (by omega)]
    congr 1
    omega
  · exact h1 i (by omega)
theorem cat_B {l m : List UInt8} {n k n' : Nat} {B B' : Nat → Int} {g : Nat → List DV} (h : IsB l n B) (hk : k = m.length) (hg : ∀ i, i < k → g i = [.s (.int .u8 ((m.getD i 0).toNat : Int))]) (h' : IsB (l ++ m) n' B') :
    n + k = n' ∧ DEq (.l 1 (n + k) (std.catF n (fun i => [.s (.int .u8 (B i))]) k g)) (.l 1 n' (fun i => [.s (.int .u8 (B' i))])) := by
  have e : n + k = n' := by rw [h.1, hk, h'.1, List.length_append]
  refine ⟨e, deq_cat e (fun i hi => ?_) (fun i hi => ?_)⟩
  · rw [h.2 i hi, h'.2 i (by omega), getD_append, if_pos (by rw [← h.1]; exact hi)]
  · rw [hg i hi, h'.2 _ (by omega), getD_append, if_neg (by rw [← h.1]; omega), show n + i - l.length = i by rw [← h.1]; omega]
theorem byteS_std (s : ByteArray) (i : Nat) : std.byteS s i = ((s.data.toList.getD i 0).toNat : Int) := rfl
theorem cat_BS {l : List UInt8} {s : ByteArray} {n n' : Nat} {B B' : Nat → Int} (h : IsB l n B) (h' : IsB (l ++ s.data.toList) n' B') :
    n + s.size = n' ∧ DEq (.l 1 (n + s.size) (std.catF n (fun i => [.s (.int .u8 (B i))]) s.size (fun i => [.s (.int .u8 (std.byteS s i))]))) (.l 1 n' (fun i => [.s (.int .u8 (B' i))])) :=
  cat_B h (by simp) (fun i _ => rfl) h'
theorem strF_B {l : List UInt8} {n : Nat} {B : Nat → Int} (h : IsB l n B) : std.strF n (fun i => [.s (.int .u8 (B i))]) = ⟨l.toArray⟩ := by
  simp only [std]
  congr 1
  congr 1
  apply List.ext_getElem?
  intro i
  rw [List.getElem?_map]
  rcases Nat.lt_or_ge i n with hi | hi
  · rw [List.getElem?_range hi, Option.map_some, List.getElem?_eq_getElem (by rw [← h.1]; exact hi)]
    simp only [unB, h.2 i hi, Option.some.injEq]
    rw [List.getD_eq_getElem?_getD, List.getElem?_eq_getElem (by rw [← h.1]; exact hi), Option.getD_some]
    apply UInt8.toNat_inj.mp
    simp
  · rw [List.getElem?_eq_none (by simpa using hi), List.getElem?_eq_none (by rw [← h.1]; exact hi)]
    rfl
theorem str_ext {s t : ByteArray} (h : s.data.toList = t.data.toList) : s = t := by
  cases s; cases t
  simp at h
  congr
theorem str_eq {a b : ByteArray} (h : a = b) : Value.string a = Value.string b := by rw [h]

/-! ### Numbers -/
theorem wU8 (n : Int) : IntKind.wrap .u8 n = n % 256 := by simp [IntKind.wrap, IntKind.bits, IntKind.signed]
theorem wU32 (n : Int) : IntKind.wrap .u32 n = n % 4294967296 := by simp [IntKind.wrap, IntKind.bits, IntKind.signed]
theorem wrapI32 (n : Int) (h : -2147483648 ≤ n ∧ n ≤ 2147483647) : IntKind.wrap .i32 n = n := by
  have : IntKind.wrap .i32 n = if 2147483648 ≤ n % 4294967296 then n % 4294967296 - 4294967296 else n % 4294967296 := by simp [IntKind.wrap, IntKind.bits, IntKind.signed]
  split at this <;> omega
theorem wrapI32_range (n : Int) : -2147483648 ≤ IntKind.wrap .i32 n ∧ IntKind.wrap .i32 n ≤ 2147483647 := by
  have : IntKind.wrap .i32 n = if 2147483648 ≤ n % 4294967296 then n % 4294967296 - 4294967296 else n % 4294967296 := by simp [IntKind.wrap, IntKind.bits, IntKind.signed]
  split at this <;> omega
theorem shr_pos (k : IntKind) (a : Int) (b : Nat) (h : b ≤ k.bits) : std.shrI k a (b : Int) = a / 2 ^ b := by
  simp only [std, Int.toNat_natCast, Nat.min_eq_left h]
  rw [Int.fdiv_eq_ediv_of_nonneg]
  exact Int.pow_nonneg (by omega)
theorem and63 (x : Int) (h : 0 ≤ x ∧ x ≤ 255) : std.bitI .and .u8 x 63 = x % 64 := by
  have : ∀ y : Fin 256, std.bitI .and .u8 (y.val : Int) 63 = (y.val : Int) % 64 := by decide +kernel
  have := this ⟨x.toNat, by omega⟩
  simpa [Int.toNat_of_nonneg h.1] using this
theorem or128 (x : Int) (h : 0 ≤ x ∧ x ≤ 63) : std.bitI .or .u8 128 x = 128 + x := by
  have : ∀ y : Fin 64, std.bitI .or .u8 128 (y.val : Int) = 128 + (y.val : Int) := by decide +kernel
  have := this ⟨x.toNat, by omega⟩
  simpa [Int.toNat_of_nonneg h.1] using this
theorem or192 (x : Int) (h : 0 ≤ x ∧ x ≤ 31) : std.bitI .or .u8 192 x = 192 + x := by
  have : ∀ y : Fin 32, std.bitI .or .u8 192 (y.val : Int) = 192 + (y.val : Int) := by decide +kernel
  have := this ⟨x.toNat, by omega⟩
  simpa [Int.toNat_of_nonneg h.1] using this
theorem or224 (x : Int) (h : 0 ≤ x ∧ x ≤ 15) : std.bitI .or .u8 224 x = 224 + x := by
  have : ∀ y : Fin 16, std.bitI .or .u8 224 (y.val : Int) = 224 + (y.val : Int) := by decide +kernel
  have := this ⟨x.toNat, by omega⟩
  simpa [Int.toNat_of_nonneg h.1] using this
theorem or240 (x : Int) (h : 0 ≤ x ∧ x ≤ 7) : std.bitI .or .u8 240 x = 240 + x := by
  have : ∀ y : Fin 8, std.bitI .or .u8 240 (y.val : Int) = 240 + (y.val : Int) := by decide +kernel
  have := this ⟨x.toNat, by omega⟩
  simpa [Int.toNat_of_nonneg h.1] using this
theorem quo64 (a b : Int) (ha : 0 ≤ a ∧ a ≤ 9223372036854775807) (hb : 1 ≤ b) : std.quoI .i64 a b = a / b := by
  simp only [std]
  rw [Int.tdiv_eq_ediv_of_nonneg ha.1, wrap64]
  have h1 := Int.ediv_nonneg ha.1 (show 0 ≤ b by omega)
  have h2 := Int.ediv_le_self b ha.1
  omega
theorem rem64 (a b : Int) (ha : 0 ≤ a) : std.remI a b = a % b := by
  simp only [std]
  exact Int.tmod_eq_emod_of_nonneg ha

/-! ### UTF-8 -/
def validR (r : Int) : Bool := decide (0 ≤ r) && decide (r ≤ 1114111) && !(decide (55296 ≤ r) && decide (r ≤ 57343))
theorem valid_eq (r : Int) : Utf8.valid r = validR r := by
  unfold Utf8.valid validR
  rw [Bool.eq_iff_iff]
  simp
  omega
/-- The bytes of a rune (U+FFFD for none). -/
def enc (r : Int) : List UInt8 := (Utf8.encode r).data.toList
def b8 (n : Int) : UInt8 := UInt8.ofNat n.toNat
theorem enc_invalid {r : Int} (h : validR r = false) : enc r = [239, 191, 189] := by
  unfold enc Utf8.encode
  rw [valid_eq, h]
  simp only [Bool.false_eq_true, if_false]
  decide
theorem enc_1 {r : Int} (h : 0 ≤ r ∧ r < 128) : enc r = [b8 r] := by
  have hv : validR r = true := by unfold validR; simp; omega
  unfold enc Utf8.encode
  rw [valid_eq, hv]
  simp only [if_true]
  rw [if_pos (by omega)]
  rfl
theorem enc_2 {r : Int} (h : 128 ≤ r ∧ r < 2048) : enc r = [b8 (192 + r / 64), b8 (128 + r % 64)] := by
  have hv : validR r = true := by unfold validR; simp; omega
  unfold enc Utf8.encode
  rw [valid_eq, hv]
  simp only [if_true]
  rw [if_neg (by omega), if_pos (by omega)]
  simp only [b8, List.cons.injEq, and_true]
  refine ⟨congrArg UInt8.ofNat ?_, congrArg UInt8.ofNat ?_⟩ <;> omega
theorem enc_3 {r : Int} (hv : validR r = true) (h : 2048 ≤ r ∧ r < 65536) : enc r = [b8 (224 + r / 4096), b8 (128 + r / 64 % 64), b8 (128 + r % 64)] := by
  unfold enc Utf8.encode
  rw [valid_eq, hv]
  simp only [if_true]
  rw [if_neg (by omega), if_neg (by omega), if_pos (by omega)]
  simp only [b8, List.cons.injEq, and_true]
  refine ⟨congrArg UInt8.ofNat ?_, congrArg UInt8.ofNat ?_, congrArg UInt8.ofNat ?_⟩ <;> omega
theorem enc_4 {r : Int} (hv : validR r = true) (h : 65536 ≤ r) : enc r = [b8 (240 + r / 262144), b8 (128 + r / 4096 % 64), b8 (128 + r / 64 % 64), b8 (128 + r % 64)] := by
  unfold enc Utf8.encode
  rw [valid_eq, hv]
  simp only [if_true]
  rw [if_neg (by omega), if_neg (by omega), if_neg (by omega)]
  simp only [b8, List.cons.injEq, and_true]
  refine ⟨congrArg UInt8.ofNat ?_, congrArg UInt8.ofNat ?_, congrArg UInt8.ofNat ?_, congrArg UInt8.ofNat ?_⟩ <;> omega
theorem enc_len (r : Int) : (enc r).length ≤ 4 ∧ 1 ≤ (enc r).length := by
  cases hv : validR r with
  | false => rw [enc_invalid hv]; simp
  | true =>
    have : 0 ≤ r := by unfold validR at hv; simp at hv; omega
    rcases Int.lt_or_le r 128 with h | h
    · rw [enc_1 ⟨this, h⟩]; simp
    rcases Int.lt_or_le r 2048 with h2 | h2
    · rw [enc_2 ⟨h, h2⟩]; simp
    rcases Int.lt_or_le r 65536 with h3 | h3
    · rw [enc_3 hv ⟨h2, h3⟩]; simp
    · rw [enc_4 hv h3]; simp
theorem b8_toNat (n : Int) (h : 0 ≤ n ∧ n ≤ 255) : ((b8 n).toNat : Int) = n := by
  unfold b8
  have : (UInt8.ofNat n.toNat).toNat = n.toNat % 256 := by simp
  omega
theorem validR_of {r : Int} (h : 0 ≤ r ∧ r ≤ 1114111 ∧ (r < 55296 ∨ 57343 < r)) : validR r = true := by
  unfold validR; simp; omega
theorem validR_not {r : Int} (h : r < 0 ∨ 1114111 < r ∨ (55296 ≤ r ∧ r ≤ 57343)) : validR r = false := by
  unfold validR
  rw [Bool.eq_false_iff]
  simp
  omega
theorem shr6 (k : IntKind) (hk : 32 ≤ k.bits) (r : Int) : std.shrI k r 6 = r / 64 := shr_pos k r 6 (by omega)
theorem shr12 (k : IntKind) (hk : 32 ≤ k.bits) (r : Int) : std.shrI k r 12 = r / 4096 := shr_pos k r 12 (by omega)
theorem shr18 (k : IntKind) (hk : 32 ≤ k.bits) (r : Int) : std.shrI k r 18 = r / 262144 := shr_pos k r 18 (by omega)
theorem std_wrap (k : IntKind) (n : Int) : std.wrapI k n = k.wrap n := rfl
theorem tail8 (x : Int) : ((b8 (128 + x % 64)).toNat : Int) = std.bitI .or .u8 128 (std.bitI .and .u8 (std.wrapI .u8 x) 63) := by
  rw [b8_toNat _ (by omega), std_wrap, wU8, and63 _ (by omega), or128 _ (by omega)]
  omega
theorem lead2 (x : Int) (h : 0 ≤ x ∧ x ≤ 31) : ((b8 (192 + x)).toNat : Int) = std.bitI .or .u8 192 (std.wrapI .u8 x) := by
  rw [b8_toNat _ (by omega), std_wrap, wrapU8 _ (by omega), or192 _ h]
theorem lead3 (x : Int) (h : 0 ≤ x ∧ x ≤ 15) : ((b8 (224 + x)).toNat : Int) = std.bitI .or .u8 224 (std.wrapI .u8 x) := by
  rw [b8_toNat _ (by omega), std_wrap, wrapU8 _ (by omega), or224 _ h]
theorem lead4 (x : Int) (h : 0 ≤ x ∧ x ≤ 7) : ((b8 (240 + x)).toNat : Int) = std.bitI .or .u8 240 (std.wrapI .u8 x) := by
  rw [b8_toNat _ (by omega), std_wrap, wrapU8 _ (by omega), or240 _ h]
theorem bits32 : 32 ≤ IntKind.bits .i32 := by decide
theorem flat1 {k : Nat} {v : Nat → Value} : ∀ i, i < k → ([DV.s (v i)] : List DV).length = 1 ∧ ∀ d, d ∈ ([DV.s (v i)] : List DV) → ∃ u, d = .s u := fun i _ => ⟨rfl, fun d hd => ⟨_, List.mem_singleton.mp hd⟩⟩
theorem cat_lit_n {l m : List UInt8} {n n' k : Nat} {B B' : Nat → Int} (hl : IsB l n B) (hl' : IsB (l ++ m) n' B') (hk : m.length = k) : n + k = n' := by
  rw [hl.1, ← hk, hl'.1, List.length_append]
theorem cat_lit_d {l m : List UInt8} {n n' k : Nat} {B B' : Nat → Int} {ys : List Int} (hl : IsB l n B) (hl' : IsB (l ++ m) n' B') (hk : m.length = k) (hm : m.map (fun b => (b.toNat : Int)) = ys) :
    DEq (.l 1 (n + k) (std.catF n (fun i => [.s (.int .u8 (B i))]) k (fun j => [.s (.int .u8 (std.nthI ys j))]))) (.l 1 (n + k) (fun i => [.s (.int .u8 (B' i))])) := by
  have := (cat_B (k := k) (g := fun j => [.s (.int .u8 (std.nthI ys j))]) hl hk.symm (fun i hi => by
    subst hm
    congr 3
    simp only [std, List.getD_eq_getElem?_getD, List.getElem?_map]
    rw [List.getElem?_eq_getElem (by omega)]
    rfl) hl')
  rw [this.1]
  rw [this.1] at this
  exact this.2
theorem cat_BS_d {l : List UInt8} {s : ByteArray} {n n' : Nat} {B B' : Nat → Int} (h : IsB l n B) (h' : IsB (l ++ s.data.toList) n' B') :
    DEq (.l 1 (n + s.size) (std.catF n (fun i => [.s (.int .u8 (B i))]) s.size (fun i => [.s (.int .u8 (std.byteS s i))]))) (.l 1 (n + s.size) (fun i => [.s (.int .u8 (B' i))])) := by
  have := cat_BS h h'
  rw [this.1]
  rw [this.1] at this
  exact this.2
theorem cat_1 {kk : IntKind} {k : Nat} {G : Nat → Int} {x : Int} (h : x = G k) : DEq (.l 1 (k + 1) (std.catF k (fun i => [.s (.int kk (G i))]) 1 (fun _ => [.s (.int kk x)]))) (.l 1 (k + 1) (fun i => [.s (.int kk (G i))])) := by
  refine deq_rows fun i hi => ?_
  simp only [std]
  split
  · rw [h, show i = k by omega]
  · rfl
theorem allLe_rfl : ∀ l : List DV, allLe DEq l l
  | [] => trivial
  | d :: l => ⟨DEq.rfl' d, allLe_rfl l⟩
theorem cat_row {sz k : Nat} {f g : Nat → List DV} (h : allLe DEq (g 0) (f k)) : DEq (.l sz (k + 1) (std.catF k f 1 g)) (.l sz (k + 1) f) := by
  refine deq_all fun i hi => ?_
  simp only [std]
  split
  · rename_i c
    obtain rfl : i = k := by omega
    rw [Nat.sub_self]
    exact h
  · exact allLe_rfl _
theorem cat_0 {sz n : Nat} {f g : Nat → List DV} : DEq (.l sz (0 + n) (std.catF 0 f n g)) (.l sz (0 + n) g) := by
  refine deq_rows fun i hi => ?_
  simp only [std]
  rw [if_pos (by omega)]
  rfl
theorem cat_one {sz : Nat} {f g h : Nat → List DV} (e : allLe DEq (g 0) (h 0)) : DEq (.l sz (0 + 1) (std.catF 0 f 1 g)) (.l sz (0 + 1) h) := by
  refine deq_all fun i hi => ?_
  obtain rfl : i = 0 := by omega
  simp only [std]
  rw [if_pos (by omega)]
  exact e
theorem deq_nil {sz : Nat} {f g : Nat → List DV} : DEq (.l sz 0 f) (.l sz 0 g) := deq_rows fun i hi => absurd hi (Nat.not_lt_zero i)
end Go.AW
