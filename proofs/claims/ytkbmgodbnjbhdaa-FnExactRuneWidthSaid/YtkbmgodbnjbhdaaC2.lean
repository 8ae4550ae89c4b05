import Derived.Test.YtkbmgodbnjbhdaaC1
namespace Go.AW
open Go.Proofs
set_option maxRecDepth 10000
def zLo : List Int := [768, 1155, 1425, 8203, 8400, 65024, 65056]
def zHi : List Int := [879, 1161, 1469, 8207, 8432, 65039, 65071]
abbrev spanRow (lo hi : Nat → Int) (i : Nat) : List DV := [.s (.int .i32 (lo i)), .s (.int .i32 (hi i))]
abbrev at0 (l : List Int) : Nat → Int := fun i => l.getD i 0
theorem con41 : PRet Try.prog 41 [] (.one (.c (.l 2 7 (spanRow (at0 zLo) (at0 zHi))))) := by
  refine pret_of fun post hp => pcon_of_awp (fn := Try.f41) (c := bodyOf Try.f41) envOk (by kernel_rfl) (by kernel_rfl) (by kernel_rfl) rfl [0] rfl ?_
  intro w0 D C L hD hC hL
  ((try cbv); repeat' (first | (refine mB (fun _ => ?_) (fun _ => ?_) <;> try cbv) | refine And.intro ?_ ?_))
  subst hD
  exact hp
def wLo : List Int := [4352, 11904, 12353, 19968, 44032, 63744, 65072, 65280, 65504, 127744, 129280, 131072]
def wHi : List Int := [4447, 12350, 19903, 42191, 55203, 64255, 65135, 65376, 65510, 128591, 129535, 262141]
theorem con42 : PRet Try.prog 42 [] (.one (.c (.l 2 12 (spanRow (at0 wLo) (at0 wHi))))) := by
  refine pret_of fun post hp => pcon_of_awp (fn := Try.f42) (c := bodyOf Try.f42) envOk (by kernel_rfl) (by kernel_rfl) (by kernel_rfl) rfl [0] rfl ?_
  intro w0 D C L hD hC hL
  ((try cbv); repeat' (first | (refine mB (fun _ => ?_) (fun _ => ?_) <;> try cbv) | refine And.intro ?_ ?_))
  subst hD
  exact hp
theorem con57 (i r : Int) (z n : Nat) (lo hi : Nat → Int) (h0 : 0 ≤ i) (h1 : i.toNat < n) : PRet Try.prog 57 [DI i, .p [.l z n (spanRow lo hi)], .p [.s (.int .i32 r)]] (.one (DB (decide (r ≤ hi i.toNat)))) := by
  refine pret_of fun post hp => pcon_of_awp (fn := Try.f57) (c := bodyOf Try.f57) envOk (by kernel_rfl) (by kernel_rfl) (by kernel_rfl) rfl [4] rfl ?_
  intro w0 D C L hD hC hL
  ((try cbv); repeat' (first | (refine mB (fun _ => ?_) (fun _ => ?_) <;> try cbv) | refine And.intro ?_ ?_))
  · (subst hD; (try simp only [nc] at *); (try simp only [Int.ofNat_eq_natCast] at *); simp (disch := omega) only [std, wrap64, decide_eq_true_eq, decide_eq_false_iff_not, Int.not_lt, Int.not_le, Nat.not_lt, Nat.not_le, beq_iff_eq, beq_eq_false_iff_ne, Bool.not_eq_true', Bool.not_eq_false', ne_eq] at *); omega
  · (subst hD; (try simp only [nc] at *); (try simp only [Int.ofNat_eq_natCast] at *); simp (disch := omega) only [std, wrap64, decide_eq_true_eq, decide_eq_false_iff_not, Int.not_lt, Int.not_le, Nat.not_lt, Nat.not_le, beq_iff_eq, beq_eq_false_iff_ne, Bool.not_eq_true', Bool.not_eq_false', ne_eq] at *); omega
  · subst hD
    exact hp
/-- sort.Search of a test that stays true. -/
theorem call_rel {P : Program} {w0 : World} {mine : FP} {σ : St} {k : V → St → Prop} {f : FuncId} {das : List DP} {post : DRes → Prop} {D : Ops} {C : CallT} {vs : List V} (hD : D = std) (hC : C = Csem P w0 mine) (h : PCon P f das post) (hargs : allS (roP D σ.store) vs = some das) (hk : ∀ r, post r → k (instR σ r).1 (instR σ r).2) : C f vs σ k := by
  subst hD hC
  exact csem_of_pcon h hargs hk
structure Ok56 (n : Nat) (p : Nat → Bool) (i j : Int) : Prop where
  h : 0 ≤ i ∧ i ≤ j ∧ j ≤ n
  lo : ∀ a : Nat, (a : Int) < i → p a = false
  hi : ∀ a : Nat, j ≤ (a : Int) → a < n → p a = true
def mu56 (x : Int × Int) : Nat := (x.2 - x.1).toNat
theorem mid_eq {i j : Int} (h : 0 ≤ i ∧ i < j ∧ j ≤ 1000000) : std.wrapI IntKind.i64 (std.shrI IntKind.u64 (std.wrapI IntKind.u64 (std.addI IntKind.i64 i j)) 1) = (i + j) / 2 := by
  have h1 : IntKind.wrap .i64 (i + j) = i + j := wrap64 _ (by omega)
  have h2 : IntKind.wrap .u64 (i + j) = i + j := IntWalk.u64_in _ (by omega)
  have h3 : (i + j).fdiv (2 ^ min (1 : Int).toNat IntKind.u64.bits) = (i + j) / 2 := by
    rw [show (2 : Int) ^ min (1 : Int).toNat IntKind.u64.bits = 2 by decide]
    rw [Int.fdiv_eq_ediv_of_nonneg _ (by omega)]
  simp only [std, h1, h2, h3]
  exact wrap64 _ (by omega)
theorem ltI_std {D : Ops} (hD : D = std) {i j : Int} (h : D.ltI i j = true) : i < j := by rw [hD] at h; simpa [std] using h
section
variable {n : Nat} {p : Nat → Bool} {i j : Int}
theorem Ok56.high (hok : Ok56 n p i j) (hn : n ≤ 1000000) (hmono : ∀ a b, a ≤ b → b < n → p a = true → p b = true) (h : i < j) (hp : p ((i + j) / 2).toNat = true) : Ok56 n p i ((i + j) / 2) := by
  have := hok.h
  exact ⟨by omega, hok.lo, fun a ha hlt => hmono _ a (by omega) hlt hp⟩
theorem Ok56.low (hok : Ok56 n p i j) (hn : n ≤ 1000000) (hmono : ∀ a b, a ≤ b → b < n → p a = true → p b = true) (h : i < j) (hp : p ((i + j) / 2).toNat = false) : Ok56 n p ((i + j) / 2 + 1) j := by
  have := hok.h
  refine ⟨by omega, fun a ha => ?_, hok.hi⟩
  cases hpa : p a with
  | false => rfl
  | true => rw [hmono a ((i + j) / 2).toNat (by omega) (by omega) hpa] at hp; cases hp
theorem Ok56.mid1 (hok : Ok56 n p i j) (hn : n ≤ 1000000) (h : i < j) : std.addI IntKind.i64 ((i + j) / 2) 1 = (i + j) / 2 + 1 := by
  have := hok.h
  exact wrap64 _ (by omega)
theorem Ok56.mu1 (hok : Ok56 n p i j) (h : i < j) : mu56 (i, (i + j) / 2) < mu56 (i, j) := by
  have := hok.h
  simp only [mu56]; omega
theorem Ok56.mu2 (hok : Ok56 n p i j) (h : i < j) : mu56 ((i + j) / 2 + 1, j) < mu56 (i, j) := by
  have := hok.h
  simp only [mu56]; omega
end
theorem con56 (g : Nat) (r1 r2 : List DV) (n : Nat) (p : Nat → Bool) (hn : n ≤ 1000000) (hmono : ∀ a b, a ≤ b → b < n → p a = true → p b = true)
    (hg : ∀ i : Int, 0 ≤ i → i.toNat < n → PRet Try.prog g [DI i, .p r1, .p r2] (.one (DB (p i.toNat)))) :
    PCon Try.prog 56 [DI (n : Nat), .fr g [r1, r2]] (fun x => ∃ r : Nat, x = .one (DI (r : Nat)) ∧ r ≤ n ∧ (∀ a, a < r → p a = false) ∧ (r < n → p r = true)) := by
  generalize hpost : (fun x : DRes => ∃ r : Nat, x = .one (DI (r : Nat)) ∧ r ≤ n ∧ (∀ a, a < r → p a = false) ∧ (r < n → p r = true)) = post
  refine pcon_of_awp (fn := Try.f56) (c := bodyOf Try.f56) envOk (by kernel_rfl) (by kernel_rfl) (by kernel_rfl) rfl [4] rfl ?_
  intro w0 D C L hD hC hL
  generalize hN : ((n : Nat) : Int) = N
  cbv
  refine ⟨Int × Int, fun x => ⟨mkS 26 [(1, .one (.lf (.fr g [r1, r2]))), (4, VI 0), (5, VI x.1), (6, VI x.2)], [], 0⟩, fun x => Ok56 n p x.1 x.2, mu56, ⟨(0, N), ⟨by subst hN; simp, fun a h => by simp at h; omega, fun a h => by subst hN; simp at h; omega⟩, ?_⟩, ?_⟩
  · (refine sub_of hL ?_; cbv)
  rintro ⟨i, j⟩ hok
  ((try cbv); repeat' (first | (refine mB (fun _ => ?_) (fun _ => ?_) <;> try cbv) | refine And.intro ?_ ?_))
  · (subst hD; (try simp only [nc] at *); (try simp only [Int.ofNat_eq_natCast] at *); simp (disch := omega) only [std, wrap64, decide_eq_true_eq, decide_eq_false_iff_not, Int.not_lt, Int.not_le, Nat.not_lt, Nat.not_le, beq_iff_eq, beq_eq_false_iff_ne, Bool.not_eq_true', Bool.not_eq_false', ne_eq] at *); simp
  · rename_i hlt
    have hlt' : i < j := by rw [hD] at hlt; simpa [std] using hlt
    have hb := hok.h
    have hm : D.wrapI IntKind.i64 (D.shrI IntKind.u64 (D.wrapI IntKind.u64 (D.addI IntKind.i64 i j)) 1) = (i + j) / 2 := by
      rw [hD]; exact mid_eq (by simp only at hb; omega)
    refine call_of hD hC (hg ((i + j) / 2) ?_ ?_) (by rw [← hm]; cbv) ?_
    · simp only at hb; omega
    · simp only at hb; omega
    clear hb hlt'
    ((try cbv); repeat' (first | (refine mB (fun _ => ?_) (fun _ => ?_) <;> try cbv) | refine And.intro ?_ ?_))
    · rename_i hp
      refine ⟨(i, D.wrapI IntKind.i64 (D.shrI IntKind.u64 (D.wrapI IntKind.u64 (D.addI IntKind.i64 i j)) 1)), ?_, ?_, ?_⟩
      · rw [hm]; exact hok.high hn hmono (ltI_std hD hlt) hp
      · (refine sub_of hL ?_; cbv)
      · rw [hm]; exact hok.mu1 (ltI_std hD hlt)
    · rename_i hp
      have hm2 : D.addI IntKind.i64 ((i + j) / 2) 1 = (i + j) / 2 + 1 := by
        rw [hD]; exact hok.mid1 hn (ltI_std hD hlt)
      refine ⟨(D.addI .i64 (D.wrapI IntKind.i64 (D.shrI IntKind.u64 (D.wrapI IntKind.u64 (D.addI IntKind.i64 i j)) 1)) 1, j), ?_, ?_, ?_⟩
      · rw [hm, hm2]; exact hok.low hn hmono (ltI_std hD hlt) hp
      · (refine sub_of hL ?_; cbv)
      · rw [hm, hm2]; exact hok.mu2 (ltI_std hD hlt)
  · rename_i hlt
    have hlt' : ¬ i < j := by rw [hD] at hlt; simpa [std] using hlt
    have := hok.h
    have h0 := hok.lo
    have h1 := hok.hi
    simp only at this h0 h1
    subst hpost
    refine ⟨i.toNat, congrArg (fun z : Int => DRes.one (DI z)) (Int.toNat_of_nonneg this.1).symm, by omega, fun a ha => h0 a (by omega), fun h => h1 _ (by omega) h⟩
def inSp (lo hi : Nat → Int) (n : Nat) (r : Int) : Bool := (List.range n).any fun i => decide (lo i ≤ r) && decide (r ≤ hi i)
structure Span (lo hi : Nat → Int) (n : Nat) : Prop where
  le : ∀ i, i < n → lo i ≤ hi i
  lt : ∀ i j, i < j → j < n → hi i < lo j
theorem inSp_of {lo hi : Nat → Int} {n k : Nat} {r : Int} (S : Span lo hi n) (hk : k ≤ n) (h1 : ∀ a, a < k → decide (r ≤ hi a) = false) (h2 : k < n → decide (r ≤ hi k) = true) : inSp lo hi n r = (decide (k < n) && decide (lo k ≤ r)) := by
  rw [Bool.eq_iff_iff]
  simp only [inSp, List.any_eq_true, List.mem_range, Bool.and_eq_true, decide_eq_true_eq] at *
  constructor
  · rintro ⟨i, hi, h3, h4⟩
    have hki : k ≤ i := by
      rcases Nat.lt_or_ge i k with h | h
      · have := h1 i h; simp at this; omega
      · exact h
    rcases Nat.lt_or_ge k i with h | h
    · have := S.lt k i h hi
      have := h2 (by omega)
      omega
    · have : k = i := by omega
      subst this; exact ⟨hi, h3⟩
  · rintro ⟨h3, h4⟩
    exact ⟨k, h3, h4, h2 h3⟩
theorem con40 (z n : Nat) (lo hi : Nat → Int) (r : Int) (hn : n ≤ 1000) (S : Span lo hi n) : PRet Try.prog 40 [.c (.l z n (spanRow lo hi)), .c (.s (.int .i32 r))] (.one (DB (inSp lo hi n r))) := by
  refine pret_of fun post hp => pcon_of_awp (fn := Try.f40) (c := bodyOf Try.f40) envOk (by kernel_rfl) (by kernel_rfl) (by kernel_rfl) rfl [4] rfl ?_
  intro w0 D C L hD hC hL
  ((try cbv); repeat' (first | (refine mB (fun _ => ?_) (fun _ => ?_) <;> try cbv) | refine And.intro ?_ ?_))
  refine call_rel hD hC (con56 57 [.l 0 n (spanRow lo hi)] [.s (.int .i32 r)] n (fun i => decide (r ≤ hi i)) (by omega) (fun a b h1 h2 h3 => ?_) (fun i h0 h1 => con57 i r 0 n lo hi h0 h1)) (by rw [hD]; cbv) ?_
  · have e : hi a ≤ hi b := by
      rcases Nat.lt_or_ge a b with h | h
      · have := S.lt a b h h2
        have := S.le b h2
        omega
      · have : a = b := by omega
        subst this; exact Int.le_refl _
    simp only [decide_eq_true_eq] at *
    omega
  rintro _ ⟨k, rfl, hk, h1, h2⟩
  rw [inSp_of S hk h1 h2] at hp
  generalize hK : ((k : Nat) : Int) = K
  ((try cbv); repeat' (first | (refine mB (fun _ => ?_) (fun _ => ?_) <;> try cbv) | refine And.intro ?_ ?_))
  · subst hK hD; simp [std]
  · subst hK; rename_i h; rw [hD] at h ⊢; exact h
  · rename_i h
    subst hK hD
    have hk2 : k < n := by simpa [std] using h
    simpa [std, hk2] using hp
  · rename_i h
    subst hK hD
    have hk2 : ¬ k < n := by simpa [std] using h
    simpa [std, hk2] using hp
theorem spanZ : Span (at0 zLo) (at0 zHi) 7 := ⟨by decide, fun i j h1 h2 => (by decide : ∀ j, j < 7 → ∀ i, i < j → at0 zHi i < at0 zLo j) j h2 i h1⟩
theorem spanW : Span (at0 wLo) (at0 wHi) 12 := ⟨by decide, fun i j h1 h2 => (by decide : ∀ j, j < 12 → ∀ i, i < j → at0 wHi i < at0 wLo j) j h2 i h1⟩
def runeWidth (r : Int) : Int := if inSp (at0 zLo) (at0 zHi) 7 r then 0 else if inSp (at0 wLo) (at0 wHi) 12 r then 2 else 1
theorem con10 (r : Int) : PRet Try.prog 10 [.c (.s (.int .i32 r))] (.one (DI (runeWidth r))) := by
  refine pret_of fun post hp => pcon_of_awp (fn := Try.f10) (c := bodyOf Try.f10) envOk (by kernel_rfl) (by kernel_rfl) (by kernel_rfl) rfl [2] rfl ?_
  intro w0 D C L hD hC hL
  ((try cbv); repeat' (first | (refine mB (fun _ => ?_) (fun _ => ?_) <;> try cbv) | refine And.intro ?_ ?_))
  refine call_of hD hC con41 (by cbv) ?_
  ((try cbv); repeat' (first | (refine mB (fun _ => ?_) (fun _ => ?_) <;> try cbv) | refine And.intro ?_ ?_))
  refine call_of hD hC (con40 2 7 (at0 zLo) (at0 zHi) r (by omega) spanZ) (by rw [hD]; cbv) ?_
  generalize h1 : inSp (at0 zLo) (at0 zHi) 7 r = b1
  ((try cbv); repeat' (first | (refine mB (fun _ => ?_) (fun _ => ?_) <;> try cbv) | refine And.intro ?_ ?_))
  · rename_i h; subst h
    simpa [runeWidth, h1] using hp
  rename_i h; subst h
  refine call_of hD hC con42 (by cbv) ?_
  ((try cbv); repeat' (first | (refine mB (fun _ => ?_) (fun _ => ?_) <;> try cbv) | refine And.intro ?_ ?_))
  refine call_of hD hC (con40 2 12 (at0 wLo) (at0 wHi) r (by omega) spanW) (by rw [hD]; cbv) ?_
  generalize h2 : inSp (at0 wLo) (at0 wHi) 12 r = b2
  ((try cbv); repeat' (first | (refine mB (fun _ => ?_) (fun _ => ?_) <;> try cbv) | refine And.intro ?_ ?_))
  · rename_i h; subst h
    simpa [runeWidth, h1, h2] using hp
  · rename_i h; subst h
    simpa [runeWidth, h1, h2] using hp
def zs : List Int := [768, 879, 1155, 1161, 1425, 1469, 8203, 8207, 8400, 8432, 65024, 65039, 65056, 65071]
def ws : List Int := [4352, 4447, 11904, 12350, 12353, 19903, 19968, 42191, 44032, 55203, 63744, 64255, 65072, 65135, 65280, 65376, 65504, 65510, 127744, 128591, 129280, 129535, 131072, 262141]
theorem zs_eq (r : Int) : l1In r (at0 zs) 14 = inSp (at0 zLo) (at0 zHi) 7 r := rfl
theorem ws_eq (r : Int) : l1In r (at0 ws) 24 = inSp (at0 wLo) (at0 wHi) 12 r := rfl
theorem con9 (r : Int) (hr : -2147483648 ≤ r ∧ r ≤ 2147483647) : PRet Try.prog 9 [.c (.s (.int .i32 r))] (.one (DI (runeWidth r))) := by
  refine pret_of fun post hp => pcon_of_awp (fn := Try.f9) (c := bodyOf Try.f9) envOk (by kernel_rfl) (by kernel_rfl) (by kernel_rfl) rfl [2] rfl ?_
  intro w0 D C L hD hC hL
  ((try cbv); repeat' (first | (refine mB (fun _ => ?_) (fun _ => ?_) <;> try cbv) | refine And.intro ?_ ?_))
  have e1 : l1In (D.wrapI .i64 r) (fun i => D.nthI zs i) 14 = inSp (at0 zLo) (at0 zHi) 7 r := by
    subst hD; rw [show std.wrapI .i64 r = r from wrap64 _ (by omega)]; exact zs_eq r
  have e2 : l1In (D.wrapI .i64 r) (fun i => D.nthI ws i) 24 = inSp (at0 wLo) (at0 wHi) 12 r := by
    subst hD; rw [show std.wrapI .i64 r = r from wrap64 _ (by omega)]; exact ws_eq r
  refine call_of hD hC (con39 1 14 (fun i => D.nthI zs i) (D.wrapI .i64 r) (by omega)) (by cbv) ?_
  rw [e1]
  generalize h1 : inSp (at0 zLo) (at0 zHi) 7 r = b1
  ((try cbv); repeat' (first | (refine mB (fun _ => ?_) (fun _ => ?_) <;> try cbv) | refine And.intro ?_ ?_))
  · rename_i h; subst h
    simpa [runeWidth, h1] using hp
  rename_i h; subst h
  refine call_of hD hC (con39 1 24 (fun i => D.nthI ws i) (D.wrapI .i64 r) (by omega)) (by cbv) ?_
  rw [e2]
  generalize h2 : inSp (at0 wLo) (at0 wHi) 12 r = b2
  ((try cbv); repeat' (first | (refine mB (fun _ => ?_) (fun _ => ?_) <;> try cbv) | refine And.intro ?_ ?_))
  · rename_i h; subst h
    simpa [runeWidth, h1, h2] using hp
  · rename_i h; subst h
    simpa [runeWidth, h1, h2] using hp
theorem con4 (r : Int) (hr : -2147483648 ≤ r ∧ r ≤ 2147483647) : PRet Try.prog 4 [.c (.s (.int .i32 r))] (.one (DB true)) := by
  refine pret_of fun post hp => pcon_of_awp (fn := Try.f4) (c := bodyOf Try.f4) envOk (by kernel_rfl) (by kernel_rfl) (by kernel_rfl) rfl [2] rfl ?_
  intro w0 D C L hD hC hL
  generalize hk : runeWidth r = k
  ((try cbv); repeat' (first | (refine mB (fun _ => ?_) (fun _ => ?_) <;> try cbv) | refine And.intro ?_ ?_))
  refine call_of hD hC (con9 r hr) (by cbv) ?_
  rw [hk]
  ((try cbv); repeat' (first | (refine mB (fun _ => ?_) (fun _ => ?_) <;> try cbv) | refine And.intro ?_ ?_))
  refine call_of hD hC (con10 r) (by cbv) ?_
  rw [hk]
  ((try cbv); repeat' (first | (refine mB (fun _ => ?_) (fun _ => ?_) <;> try cbv) | refine And.intro ?_ ?_))
  · rename_i h; subst hD; simp [std] at h
  · exact hp
end Go.AW
