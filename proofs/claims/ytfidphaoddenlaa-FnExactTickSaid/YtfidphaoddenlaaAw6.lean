/- The abstract calculus, part 6: lengths, places, pieces, conversions. -/
import Derived.Test.YtfidphaoddenlaaAw5
set_option linter.unusedVariables false
set_option linter.unusedSimpArgs false
namespace Go.AW
section
variable {P : Program} {w0 w : World} {mine : FP} {γ : Ghost} {σ : St} {a : Act} {k : V → St → Prop} {E : Env}

/-- A slice's value as its reading tells it. -/
theorem ro_slice {F : FP} {n : Nat} {f : Nat → List DV} {u : Value} {z : Nat} (h : RoT w F u (.l z n f)) : ∃ a cap, u = .slice a n cap ∧ n ≤ cap := by
  cases h with
  | nl z a cap g => exact ⟨a, cap, rfl, Nat.zero_le _⟩
  | bl z b off n cap sz g cs t fr vs _ _ hn => exact ⟨_, _, rfl, hn⟩

theorem ro_row {F : FP} {n : Nat} {f : Nat → List DV} {u : Value} {z : Nat} (h : RoT w F u (.l z n f)) (i : Nat) (hi : i < n) :
    ∃ b off cap sz cs t fr, u = .slice (some ⟨b, off, none⟩) n cap ∧ (f i).length = sz ∧ F b ∧ w.heap[b]? = some (.cells cs t fr) ∧
      ∀ j d, (f i)[j]? = some d → ∃ v, cs[off + i * sz + j]? = some v ∧ RoT w F v d := by
  cases h with
  | nl z a cap g => omega
  | bl z b off n cap sz g cs t fr vs hF hb hn hsz hv hd => exact ⟨b, off, cap, sz, cs, t, fr, rfl, hsz i hi, hF, hb, fun j d hj => ⟨vs i j, hv i j d hi hj, hd i j d hi hj⟩⟩

theorem ro_shift {F : FP} {n : Nat} {f : Nat → List DV} {u : Value} {A : Option Addr} {cap : Nat} {z : Nat} (h : RoT w F (.slice A n cap) (.l z n f)) (lo m : Nat) (hlo : lo + m ≤ n) (hm : 0 < m) :
    ∃ sz ad, A = some ad ∧ RoT w F (.slice (some (ad.add (lo * sz))) m (cap - lo)) (.l z m fun i => f (lo + i)) ∧ (f 0).length = sz := by
  cases h with
  | nl z a cap g => omega
  | bl z b off n cap sz g cs t fr vs hF hb hn hsz hv hd =>
    refine ⟨sz, _, rfl, ?_, hsz 0 (by omega)⟩
    rw [add_at]
    refine .bl _ b (off + lo * sz) m (cap - lo) sz _ cs t fr (fun i j => vs (lo + i) j) hF hb (by omega) (fun i hi => hsz _ (by omega)) (fun i j d hi hj => ?_) (fun i j d hi hj => hd _ _ _ (by omega) hj)
    have := hv (lo + i) j d (by omega) hj
    rw [← this]
    congr 1
    rw [Nat.add_mul]
    omega

theorem view_slice {v : Option (Nat × Nat)} {n : Nat} {c u : Value} (h : ViewOf v n c u) : ∃ A cap, u = .slice A n cap ∧ n ≤ cap := by
  unfold ViewOf at h
  split at h
  · obtain ⟨rfl, A, cap, he, hn, _⟩ := h
    exact ⟨A, cap, he, hn⟩
  · rcases h with ⟨rfl, A, cap, he⟩ | ⟨b, o, N, cap, cap', _, he, hn, _⟩
    · exact ⟨A, cap, he, Nat.zero_le _⟩
    · exact ⟨_, _, he, hn⟩
/-- A view's cells, told from the value in the cell. -/
theorem view_at {v : Option (Nat × Nat)} {n sz : Nat} {c u : Value} (h : ViewOf v n c u) (hz : viewSz sz v = true) (h0 : 0 < n) :
    ∃ b o N cap cap', c = .slice (some ⟨b, o, none⟩) N cap ∧ u = .slice (some ⟨b, o + (v.map (·.1)).getD 0 * sz, none⟩) n cap' ∧ n ≤ cap' ∧ (v.map (·.1)).getD 0 + n ≤ N := by
  unfold ViewOf at h
  split at h
  · obtain ⟨rfl, A, cap, he, hn, ha⟩ := h
    obtain ⟨b, o, rfl⟩ := ha h0
    exact ⟨b, o, n, cap, cap, he, by simp [he], hn, by simp⟩
  · rename_i off sz'
    have hz := Nat.eq_of_beq_eq_true hz
    subst hz
    rcases h with ⟨rfl, _⟩ | ⟨b, o, N, cap, cap', h1, h2, h3, h4⟩
    · omega
    · exact ⟨b, o, N, cap, cap', h1, by simp [h2], h3, by simpa using h4⟩
theorem rowO_std (v : Option (Nat × Nat)) (i : Int) : rowO std v i = (v.map (·.1)).getD 0 + i.toNat := by
  rcases v with _ | ⟨off, z⟩
  · simp [rowO, std]
  · cases off <;> simp [rowO, rowN, std]

theorem does_len (hE : EnvOk P E) (R : Rel w0 mine γ σ a w) {d t p af g} {x : Operand} {ty : TypeId} (hk : okK (E ty).k = true) (h : lenP std (E ty).k (evA σ x) fun v => k v σ) :
    DoesQ P γ σ a w ⟨d, .call { callee := .builtin .len, args := #[x], argTypes := #[ty] }, t, p, af, g⟩ k := by
  have hi := hE ty (okK_ne hk)
  have hx := R.ev x
  unfold lenP at h
  have hsl : ∀ {e}, (E ty).k = .sl e → ∀ A n c, (Builtin.len_ #[ty] t #[.slice A n c]).run P w = .ok (goInt n) w := by
    intro e he A n c
    simp [Builtin.len_, run_underlying (hi.sl he)]
  have fin : ∀ {u : Value} {n : Nat}, (Builtin.len_ #[ty] t #[u]).run P w = .ok (goInt n) w → a.eval x = u → k (.one (.lf (.s (.int .i64 (std.ofN n))))) σ →
      DoesQ P γ σ a w ⟨d, .call { callee := .builtin .len, args := #[x], argTypes := #[ty] }, t, p, af, g⟩ k := by
    intro u n hr he hk'
    refine .value R hk' (rv_int _ _) ?_
    simp [execOp, resolve, invoke, builtin, he, hr, goInt, std]
  split at h
  · rename_i s hv hx0
    rw [hx0] at hx
    exact fin (u := .string s) (n := s.size) (by simp [Builtin.len_, run_underlying (hi.str hv)]) hx.2 h
  · rename_i e hv hx0
    rw [hx0] at hx
    exact fin (n := 0) (hsl hv _ _ _) hx.2 h
  · rename_i e n f hv hx0
    rw [hx0] at hx
    obtain ⟨A, c, he, _⟩ := ro_slice hx.2
    exact fin (hsl hv _ _ _) he h
  · rename_i e id n f hv hx0
    rw [hx0] at hx
    obtain ⟨A, c, he, _⟩ := ro_slice hx.2.2
    exact fin (hsl hv _ _ _) he h
  · rename_i e id i j v n hv hx0
    rw [hx0] at hx
    obtain ⟨c, hc, hw⟩ := hx.2
    obtain ⟨A, cap, he, _⟩ := view_slice hw
    exact fin (hsl hv _ _ _) he h
  · rename_i e id off n hv hx0
    rw [hx0] at hx
    obtain ⟨g', A, c, _, he, _⟩ := hx.2
    exact fin (hsl hv _ _ _) he h
  · exact h.elim

theorem does_index (hE : EnvOk P E) (R : Rel w0 mine γ σ a w) {d t p af g} {x i : Operand} {ty : TypeId} {s : ByteArray} {n : Int} (hk : (E ty).k = .str) (hx : evA σ x = .one (.lf (.s (.string s)))) (hi : intV (evA σ i) = some n)
    (h : idxP std n (std.lenS s) (k (.one (.lf (.s (.int .u8 (std.byteS s (std.natI n)))))) σ)) : DoesQ P γ σ a w ⟨d, .index ty x i, t, p, af, g⟩ k := by
  have hT := hE ty (by rw [hk]; simp)
  have hxv := R.ev x
  rw [hx] at hxv
  have hx' := hxv.2
  obtain ⟨kk, hi'⟩ := R.int hi
  obtain ⟨h0, h1, h2⟩ := h
  simp only [std, decide_eq_true_eq] at h0 h1 h2
  have hlt : n.toNat < s.size := by omega
  refine .value R h2 (rv_int _ _) ?_
  have hx2 : a.eval x = .string s := hx'
  simp only [execOp, hx2, hi', Instr.index, asIntOf, Sem.run_bind, Sem.run_pure, Result.andThen_ok, run_underlying (hT.str hk), if_pos h0]
  have : s[n.toNat]? = some s[n.toNat] := getElem?_pos s n.toNat hlt
  rw [this]
  simp only [Sem.run_pure, Result.andThen_ok]
  congr 3
  have h3 : s.data.toList[n.toNat]? = some s[n.toNat] := by
    have h4 : n.toNat < s.data.toList.length := by simpa using hlt
    rw [List.getElem?_eq_getElem h4]
    rfl
  simp [List.getD, h3]

theorem run_sizeOf_elem (hE : EnvOk P E) {e : Nat} (hk : okK (E e).k = true) : (sizeOf e).run P w = .ok (E e).size w := (hE e (okK_ne hk)).run_size w

theorem does_indexAddr (hE : EnvOk P E) (R : Rel w0 mine γ σ a w) {d t p af g} {x i : Operand} {ty e : TypeId} {n : Int} (hk : (E ty).k = .sl e) (hke : okK (E e).k = true) (hi : intV (evA σ i) = some n)
    (h : indexAddrP std (E e).size (evA σ x) n σ fun v => k v σ) : DoesQ P γ σ a w ⟨d, .indexAddr ty x i, t, p, af, g⟩ k := by
  have hT := hE ty (by rw [hk]; simp)
  have hs := run_sizeOf_elem (w := w) hE hke
  have hx := R.ev x
  obtain ⟨kk, hi'⟩ := R.int hi
  unfold indexAddrP at h
  have run : ∀ {ad : Addr} {len cap : Nat}, a.eval x = .slice (some ad) len cap → 0 ≤ n → n < (len : Int) →
      (execOp a.eval ⟨d, .indexAddr ty x i, t, p, af, g⟩).run P w = .ok (.value (.pointer (some (ad.add (n.toNat * (E e).size))))) w := by
    intro ad len cap he h0 h1
    simp [execOp, he, hi', Instr.indexAt, asIntOf, run_underlying (hT.sl hk), hs, h0, h1]
  split at h
  · rename_i m f hx0
    rw [hx0] at hx
    obtain ⟨h0, h1, h2, h3⟩ := h
    simp only [std, decide_eq_true_eq] at h0 h1 h2 h3
    have hlt : n.toNat < m := by omega
    obtain ⟨b, off, cap, sz, cs, t', fr, hu, hlen, hF, hh, hrow⟩ := ro_row hx.2 n.toNat hlt
    refine .value R h3 ⟨rfl, ?_⟩ (run hu h0 h1)
    have hsz : (E e).size = sz := by rw [← hlen]; exact (Nat.eq_of_beq_eq_true h2).symm
    exact ⟨b, off + n.toNat * sz, cs, t', fr, by rw [add_at, hsz], hF, hh, hrow⟩
  · rename_i id m f hx0
    rw [hx0] at hx
    obtain ⟨h0, h1, h2, h3⟩ := h
    simp only [std, decide_eq_true_eq] at h0 h1 h2 h3
    have hlt : n.toNat < m := by omega
    obtain ⟨b, off, cap, sz, cs, t', fr, hu, hlen, hF, hh, hrow⟩ := ro_row hx.2.2 n.toNat hlt
    refine .value R h3 ⟨rfl, ?_⟩ (run hu h0 h1)
    have hsz : (E e).size = sz := by rw [← hlen]; exact (Nat.eq_of_beq_eq_true h2).symm
    exact ⟨hx.2.1, b, off + n.toNat * sz, cs, t', fr, by rw [add_at, hsz], hF, hh, hrow⟩
  · rename_i id i' j v m hx0
    rw [hx0] at hx
    obtain ⟨h0, h1, h2, h3⟩ := h
    simp only [std, decide_eq_true_eq] at h0 h1
    obtain ⟨c, hc, hw⟩ := hx.2
    obtain ⟨b, o, N, cap, cap', hce, hu, hn, hN⟩ := view_at hw h2 (by omega)
    refine .value R h3 ⟨rfl, c, b, o, N, cap, hc, hce, ?_, ?_⟩ (run hu h0 h1)
    · rw [rowO_std]; omega
    · rw [add_at, rowO_std, Nat.add_mul, Nat.add_zero, Nat.add_assoc]
  · rename_i id off len hx0
    rw [hx0] at hx
    split at h
    · rename_i m f hs'
      obtain ⟨h0, h1, h2, h3⟩ := h
      simp only [std, decide_eq_true_eq] at h0 h1
      have hr : rowN std off n = off + n.toNat := by cases off <;> simp [rowN, std]
      rw [hr] at h2 h3
      obtain ⟨g1, A, cap, hg, hu, hle, hgn, htot, had⟩ := hx.2
      obtain ⟨b, hb, hA⟩ := had (by omega)
      subst hA
      obtain ⟨g2, hg2, ho⟩ := R.st.objs id _ hs'
      rw [hg] at hg2; cases hg2
      simp only [RObj, hb] at ho
      obtain ⟨hnn, _, _, cs', t'', fr, vs, G, hfp, hh, hun, htot', hn, hlen, hG, hGd, hv⟩ := ho
      have hm : off + n.toNat < m := by omega
      have hsz : g1.sz = (E e).size := by
        have := Nat.eq_of_beq_eq_true h2
        rw [hlen _ hm] at this
        exact this
      refine .value R h3 ⟨rfl, g1, b, hg, hb, by omega, ?_⟩ (run hu h0 h1)
      rw [add_at, ← hsz, Nat.add_mul, Nat.add_zero, Nat.add_assoc]
    · exact h.elim
  · exact h.elim

theorem drop_getElem? {α : Type} (l : List α) (i j : Nat) : (l.drop i)[j]? = l[i + j]? := by simp

theorem rrow_drop {F : FP} {u : Value} {row : List DV} (h : RRow w F u row) (off : Nat) : ∃ b o, u = .pointer (some ⟨b, o, none⟩) ∧ RRow w F (.pointer (some ⟨b, o + off, none⟩)) (row.drop off) := by
  obtain ⟨b, o, cs, t, fr, hu, hF, hh, hv⟩ := h
  refine ⟨b, o, hu, b, o + off, cs, t, fr, rfl, hF, hh, fun j d hj => ?_⟩
  rw [drop_getElem?] at hj
  obtain ⟨v, h1, h2⟩ := hv _ _ hj
  exact ⟨v, by rw [← h1, Nat.add_assoc], h2⟩

theorem does_fieldAddr (hE : EnvOk P E) (R : Rel w0 mine γ σ a w) {d t p af g s f} {x : Operand} {fs : List (Nat × Nat)} {off sz : Nat} (hk : (E s).k = .st fs) (hf : nthO fs f = some (off, sz + 1)) {l l' : Leaf} (hx : evA σ x = .one (.lf l))
    (hl : match l, l' with
      | .p id j, .p id' j' => id' = id ∧ j' = j + off
      | .pr id i j, .pr id' i' j' => id' = id ∧ i' = i ∧ j' = j + off
      | .qp id i j kk l sz, .qp id' i' j' kk' l' sz' => id' = id ∧ i' = i ∧ j' = j ∧ kk' = kk ∧ l' = l + off ∧ sz' = sz
      | .rp row, .rp row' => row' = row.drop off
      | .sp id row, .sp id' row' => id' = id ∧ row' = row.drop off
      | _, _ => False)
    (h : k (.one (.lf l')) σ) : DoesQ P γ σ a w ⟨d, .fieldAddr s x f, t, p, af, g⟩ k := by
  have hT := hE s (by rw [hk]; simp)
  obtain ⟨gs, hu, hsz, hfs⟩ := hT.st hk
  rw [nthO_getElem?] at hf
  obtain ⟨fld, hg, ho, hsize⟩ := hfs f _ hf
  have hfld : gs.toList[f]? = some fld := by simpa using hg
  have hx' := R.ev x
  rw [hx] at hx'
  have run : ∀ {b o : Nat}, a.eval x = .pointer (some ⟨b, o, none⟩) → (execOp a.eval ⟨d, .fieldAddr s x f, t, p, af, g⟩).run P w = .ok (.value (.pointer (some ⟨b, o + off, none⟩))) w := by
    intro b o he
    have hs : (sizeOf fld.type).run P w = .ok (sz + 1) w := by
      cases hi : P.info? fld.type with
      | none => simp [hi] at hsize
      | some i => simp [hi] at hsize; simp [sizeOf, typeInfo, hi, hsize]
    simp only [execOp, Instr.fieldAt, he, Sem.run_bind, run_underlying hu, Result.andThen_ok, hg, Instr.sureAddr, Sem.run_pure, fieldPlace, hs]
    rw [if_neg (by omega)]
    simp only [Sem.run_pure, Result.andThen_ok, add_at, ho]
  cases l <;> cases l' <;> simp only at hl <;> try exact hl.elim
  · obtain ⟨rfl, rfl⟩ := hl
    obtain ⟨g1, b, hg1, hb, he⟩ := hx'.2
    exact .value R h ⟨rfl, g1, b, hg1, hb, by rw [Nat.add_assoc]⟩ (run he)
  · obtain ⟨rfl, rfl, rfl⟩ := hl
    obtain ⟨g1, b, hg1, hb, hlt, he⟩ := hx'.2
    exact .value R h ⟨rfl, g1, b, hg1, hb, hlt, by simp only [Nat.add_assoc]⟩ (run he)
  · obtain ⟨rfl, rfl, rfl, rfl, rfl, rfl⟩ := hl
    obtain ⟨c, b, o, N, cap, hc, hce, hN, he⟩ := hx'.2
    exact .value R h ⟨rfl, c, b, o, N, cap, hc, hce, hN, by simp only [Nat.add_assoc]⟩ (run he)
  · subst hl
    obtain ⟨b, o, he, hr⟩ := rrow_drop hx'.2 off
    exact .value R h ⟨rfl, hr⟩ (run he)
  · obtain ⟨rfl, rfl⟩ := hl
    obtain ⟨b, o, he, hr⟩ := rrow_drop hx'.2.2 off
    exact .value R h ⟨rfl, hx'.2.1, hr⟩ (run he)

theorem does_convert (hE : EnvOk P E) (R : Rel w0 mine γ σ a w) {d t p af g src dst} {x : Operand} {kd : IntKind} {n : Int} {ks : IntKind} (hsrc : okK (E src).k = true) (hk : (E dst).k = .int kd) (hx : evA σ x = .one (.lf (.s (.int ks n))))
    (h : k (.one (.lf (.s (.int kd (std.wrapI kd n))))) σ) : DoesQ P γ σ a w ⟨d, .convert src dst x, t, p, af, g⟩ k := by
  have hT := hE dst (by rw [hk]; simp)
  obtain ⟨ds, hds, _⟩ := (hE src (okK_ne hsrc)).und
  have hx' := R.ev x
  rw [hx] at hx'
  have hx2 : a.eval x = .int ks n := hx'.2
  refine .value R h (rv_int _ _) ?_
  simp [execOp, convert, hx2, run_underlying hds, run_underlying (hT.int hk), Conv.intToInt, std]
end
end Go.AW
