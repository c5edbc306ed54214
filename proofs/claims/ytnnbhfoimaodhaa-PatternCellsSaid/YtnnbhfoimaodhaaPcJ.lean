/-
  The plain law of 'orchestrionlaw05.PatternCells': texts and cells are inverse to each other, and the two ways of reading agree.
-/
import Derived.Test.YtnnbhfoimaodhaaPcI
namespace Go.Proofs.Ytnnbhfoimaodhaa
open Go.Abs
set_option linter.unusedVariables false

theorem plc_at (b : Int) : ∀ (s : List UInt8) (i k : Nat), plc b s i = ((i + k : Nat) : Int) → ∃ x, s[k]? = some x ∧ (x.toNat : Int) = b
  | [], i, k, h => by simp only [plc] at h; omega
  | x :: r, i, k, h => by
    simp only [plc] at h
    split at h
    · have : k = 0 := by omega
      subst this
      exact ⟨x, rfl, ‹_›⟩
    · have hb := plc_bound b r (i + 1)
      have : k ≠ 0 := by rintro rfl; omega
      obtain ⟨m, rfl⟩ := Nat.exists_eq_succ_of_ne_zero this
      obtain ⟨y, h1, h2⟩ := plc_at b r (i + 1) m (by rw [h]; congr 1; omega)
      exact ⟨y, by simpa using h1, h2⟩

theorem dgv_dig {bs : Nat} (hb : bs ≤ 36) {x : UInt8} (h : 0 ≤ dgv bs x) : dig (dgv bs x) = x := by
  have hb' := dgv_bound bs hb x
  have : plc (x.toNat : Int) (effs.take bs) 0 = ((0 + (dgv bs x).toNat : Nat) : Int) := by
    show dgv bs x = _
    omega
  obtain ⟨y, h1, h2⟩ := plc_at _ _ _ _ this
  have hy : y = x := UInt8.toNat_inj.1 (by omega)
  subst hy
  rw [List.getElem?_take] at h1
  split at h1
  · simp [dig, List.getD, h1]
  · cases h1

theorem dig_dgv10 : ∀ k : Fin 10, dgv 10 (dig (k.val : Int)) = k.val := by decide
theorem dig_dgv16 : ∀ k : Fin 16, dgv 16 (dig (k.val : Int)) = k.val := by decide
theorem dig_plc36 : ∀ k : Fin 36, plc ((dig (k.val : Int)).toNat : Int) effs 0 = k.val := by decide
theorem dig_ne46 : ∀ k : Fin 36, dig (k.val : Int) ≠ 46 := by decide
theorem dig_val10 : ∀ k : Fin 10, ((dig (k.val : Int)).toNat : Int) = 48 + k.val := by decide

theorem dgv10 (k : Int) (h0 : 0 ≤ k) (h1 : k < 10) : dgv 10 (dig k) = k := by
  have := dig_dgv10 ⟨k.toNat, by omega⟩
  simpa [Int.toNat_of_nonneg h0] using this
theorem dgv16 (k : Int) (h0 : 0 ≤ k) (h1 : k < 16) : dgv 16 (dig k) = k := by
  have := dig_dgv16 ⟨k.toNat, by omega⟩
  simpa [Int.toNat_of_nonneg h0] using this
theorem plc36 (k : Int) (h0 : 0 ≤ k) (h1 : k < 36) : plc ((dig k).toNat : Int) effs 0 = k := by
  have := dig_plc36 ⟨k.toNat, by omega⟩
  simpa [Int.toNat_of_nonneg h0] using this
theorem ne46 (k : Int) (h0 : 0 ≤ k) (h1 : k < 36) : dig k ≠ 46 := by
  have := dig_ne46 ⟨k.toNat, by omega⟩
  simpa [Int.toNat_of_nonneg h0] using this
theorem val10 (k : Int) (h0 : 0 ≤ k) (h1 : k < 10) : ((dig k).toNat : Int) = 48 + k := by
  have := dig_val10 ⟨k.toNat, by omega⟩
  simpa [Int.toNat_of_nonneg h0] using this

theorem dg2_10 (n : Int) (h0 : 0 ≤ n) (h1 : n ≤ 99) : dg2 10 (dig (n / 10)) (dig (n % 10)) = n := by
  rw [dg2, dgv10 _ (by omega) (by omega), dgv10 _ (by omega) (by omega), if_neg (by omega), if_neg (by omega)]
  omega
theorem dg2_16 (n : Int) (h0 : 0 ≤ n) (h1 : n ≤ 255) : dg2 16 (dig (n / 16)) (dig (n % 16)) = n := by
  rw [dg2, dgv16 _ (by omega) (by omega), dgv16 _ (by omega) (by omega), if_neg (by omega), if_neg (by omega)]
  omega

theorem dg2_inv {bs : Nat} (h0 : 0 < bs) (hb : bs ≤ 36) {x y : UInt8} (h : 0 ≤ dg2 bs x y) : dig (dg2 bs x y / bs) = x ∧ dig (dg2 bs x y % bs) = y := by
  have h1 := dgv_bound bs hb x
  have h2 := dgv_bound bs hb y
  by_cases hx : dgv bs x < 0
  · rw [dg2, if_pos hx] at h; omega
  · by_cases hy : dgv bs y < 0
    · rw [dg2, if_neg hx, if_pos hy] at h; omega
    · have e : dg2 bs x y = dgv bs x * bs + dgv bs y := by rw [dg2, if_neg hx, if_neg hy]
      have hpos : (0 : Int) < bs := by omega
      have e1 : dg2 bs x y / bs = dgv bs x := by
        rw [e, Int.add_comm, Int.add_mul_ediv_right _ _ (by omega), Int.ediv_eq_zero_of_lt (by omega) (by omega)]; omega
      have e2 : dg2 bs x y % bs = dgv bs y := by
        rw [e, Int.add_comm, Int.add_mul_emod_self_right, Int.emod_eq_of_lt (by omega) (by omega)]
      rw [e1, e2]
      exact ⟨dgv_dig hb (by omega), dgv_dig hb (by omega)⟩

/-! The note -/
theorem note_cases {a : Int} (h : vnote a = true) : a = 0 ∨ a = 255 ∨ a = 254 ∨ a = 253 ∨ ∃ n : Nat, n < 120 ∧ a = n + 1 := by
  simp only [vnote, Bool.and_eq_true, Bool.or_eq_true, decide_eq_true_eq, beq_iff_eq] at h
  by_cases h0 : a = 0
  · exact .inl h0
  · by_cases h1 : a ≤ 120
    · exact .inr (.inr (.inr (.inr ⟨(a - 1).toNat, by omega, by omega⟩)))
    · omega

theorem noted_key (n : Nat) (h : n < 120) : notedT ((n : Int) + 1) = toneName n := by
  unfold notedT
  rw [if_neg (by omega), if_neg (by omega), if_neg (by omega), if_neg (by omega)]
  congr 1; omega

theorem pNote_noted {a : Int} (h : vnote a = true) : pNote (notedT a) = some a ∧ gNote (notedT a) = a ∧ (notedT a).length = 3 := by
  rcases note_cases h with rfl | rfl | rfl | rfl | ⟨n, hn, rfl⟩
  · exact ⟨by decide, by decide, by decide⟩
  · exact ⟨by decide, by decide, by decide⟩
  · exact ⟨by decide, by decide, by decide⟩
  · exact ⟨by decide, by decide, by decide⟩
  · rw [noted_key n hn]
    have := noteV_name ⟨n, hn⟩
    simp only at this
    refine ⟨by simp [pNote, this], by simp [gNote, this], ?_⟩
    unfold toneName
    rw [if_pos (by omega)]
    simp only [List.length_append, names_len, List.length_cons, List.length_nil]

theorem noted_pNote {l : List UInt8} {a : Int} (h : pNote l = some a) : vnote a = true ∧ notedT a = l := by
  unfold pNote at h
  cases hn : noteV l with
  | some n =>
    rw [hn] at h
    cases h
    obtain ⟨h1, h2⟩ := name_noteV hn
    refine ⟨?_, by rw [noted_key n h1, h2]⟩
    simp only [vnote, Bool.and_eq_true, Bool.or_eq_true, decide_eq_true_eq, beq_iff_eq]
    omega
  | none =>
    rw [hn] at h
    simp only at h
    split at h
    · rename_i e; cases h; subst e; exact ⟨by decide, by decide⟩
    · split at h
      · rename_i e; cases h; subst e; exact ⟨by decide, by decide⟩
      · split at h
        · rename_i e; cases h; subst e; exact ⟨by decide, by decide⟩
        · split at h
          · rename_i e; cases h; subst e; exact ⟨by decide, by decide⟩
          · cases h

/-! The instrument -/
theorem pInst_inst {b : Int} (h0 : 0 ≤ b) (h1 : b ≤ 31) : ∃ x y, instT b = [x, y] ∧ pInst x y = some b ∧ gInst x y = b := by
  by_cases hb : 0 < b
  · refine ⟨dig (b / 10), dig (b % 10), by rw [instT, if_pos hb], ?_, ?_⟩
    · rw [pInst, if_neg (fun h => ne46 (b / 10) (by omega) (by omega) h.1), dg2_10 b h0 (by omega), if_neg (by omega)]
    · rw [gInst, if_neg (ne46 (b / 10) (by omega) (by omega)), val10 _ (by omega) (by omega), val10 _ (by omega) (by omega)]
      omega
  · obtain rfl : b = 0 := by omega
    exact ⟨46, 46, rfl, rfl, rfl⟩

theorem inst_pInst {x y : UInt8} {b : Int} (h : pInst x y = some b) : instT b = [x, y] := by
  unfold pInst at h
  split at h
  · rename_i e
    cases h
    rw [e.1, e.2]; rfl
  · split at h
    · cases h
    · cases h
      obtain ⟨h1, h2⟩ := dg2_inv (bs := 10) (by decide) (by decide) (x := x) (y := y) (by omega)
      rw [instT, if_pos (by omega)]
      simp only [Int.cast_ofNat_Int] at h1 h2
      rw [h1, h2]

/-! The volume column -/
theorem pVol_vol {c d : Int} (h : vpart 12 99 c d = true) : ∃ x y z, volT c d = [x, y, z] ∧ pVol x y z = some (c, d) ∧ gVol x y z = (c, d) := by
  simp only [vpart, Bool.and_eq_true, Bool.or_eq_true, decide_eq_true_eq, beq_iff_eq] at h
  obtain ⟨⟨⟨c0, c1⟩, d0, d1⟩, hcd⟩ := h
  by_cases hc : 0 < c
  · have hx : ((UInt8.ofNat (96 + c.toNat)).toNat : Int) = 96 + c := by
      rw [UInt8.toNat_ofNat', Nat.mod_eq_of_lt (by omega)]; omega
    have hn : UInt8.ofNat (96 + c.toNat) ≠ 46 := by
      intro h; rw [h] at hx
      have : (((46 : UInt8).toNat : Nat) : Int) = 46 := rfl
      omega
    refine ⟨UInt8.ofNat (96 + c.toNat), dig (d / 10), dig (d % 10), by rw [volT, if_pos hc], ?_, ?_⟩
    · rw [pVol, if_neg (fun h => hn h.1), hx, dg2_10 d d0 d1, if_neg (by omega)]
      congr 2; omega
    · rw [gVol, if_neg hn, hx, val10 _ (by omega) (by omega), val10 _ (by omega) (by omega)]
      congr 1 <;> omega
  · obtain rfl : c = 0 := by omega
    obtain rfl : d = 0 := by omega
    exact ⟨46, 46, 46, rfl, rfl, rfl⟩

theorem vol_pVol {x y z : UInt8} {c d : Int} (h : pVol x y z = some (c, d)) (hc1 : c ≤ 12) : volT c d = [x, y, z] := by
  unfold pVol at h
  split at h
  · rename_i e
    cases h
    rw [e.1, e.2.1, e.2.2]; rfl
  · split at h
    · cases h
    · simp only [Option.some.injEq, Prod.mk.injEq] at h
      obtain ⟨rfl, rfl⟩ := h
      obtain ⟨h1, h2⟩ := dg2_inv (bs := 10) (by decide) (by decide) (x := y) (y := z) (by omega)
      simp only [Int.cast_ofNat_Int] at h1 h2
      rw [volT, if_pos (by omega), h1, h2]
      congr 1
      apply UInt8.toNat_inj.1
      rw [UInt8.toNat_ofNat', Nat.mod_eq_of_lt (by omega)]
      omega

/-! The effect -/
theorem pEff_eff {e f : Int} (h : vpart 36 255 e f = true) : ∃ x y z, effT e f = [x, y, z] ∧ pEff x y z = some (e, f) ∧ gEff x y z = (e, f) := by
  simp only [vpart, Bool.and_eq_true, Bool.or_eq_true, decide_eq_true_eq, beq_iff_eq] at h
  obtain ⟨⟨⟨e0, e1⟩, f0, f1⟩, hef⟩ := h
  by_cases he : 0 < e
  · have hn := ne46 (e - 1) (by omega) (by omega)
    refine ⟨dig (e - 1), dig (f / 16), dig (f % 16), by rw [effT, if_pos he], ?_, ?_⟩
    · rw [pEff, if_neg (fun h => hn h.1), plc36 (e - 1) (by omega) (by omega), dg2_16 f f0 f1, if_neg (by omega)]
      congr 2; omega
    · have g1 := dgv16 (f / 16) (by omega) (by omega)
      have g2 := dgv16 (f % 16) (by omega) (by omega)
      unfold dgv at g1 g2
      rw [gEff, if_neg hn, plc36 (e - 1) (by omega) (by omega), g1, g2]
      congr 1 <;> omega
  · obtain rfl : e = 0 := by omega
    obtain rfl : f = 0 := by omega
    exact ⟨46, 46, 46, rfl, rfl, rfl⟩

theorem eff_pEff {x y z : UInt8} {e f : Int} (h : pEff x y z = some (e, f)) : effT e f = [x, y, z] := by
  unfold pEff at h
  split at h
  · rename_i e
    cases h
    rw [e.1, e.2.1, e.2.2]; rfl
  · split at h
    · cases h
    · simp only [Option.some.injEq, Prod.mk.injEq] at h
      obtain ⟨rfl, rfl⟩ := h
      obtain ⟨h1, h2⟩ := dg2_inv (bs := 16) (by decide) (by decide) (x := y) (y := z) (by omega)
      simp only [Int.cast_ofNat_Int] at h1 h2
      have h3 : dig (plc (x.toNat : Int) effs 0) = x := by
        have := dgv_dig (bs := 36) (by decide) (x := x) (by show 0 ≤ plc _ _ _; rw [show effs.take 36 = effs from rfl]; omega)
        exact this
      rw [effT, if_pos (by omega), h1, h2]
      congr 1
      rw [show plc (x.toNat : Int) effs 0 + 1 - 1 = plc (x.toNat : Int) effs 0 by omega]
      exact h3

/-! The cell -/
theorem parse_text {a b c d e f : Int} (h : validC a b c d e f = true) : parseP (cellT a b c d e f) = some (a, b, c, d, e, f) ∧ parseR (cellT a b c d e f) = some (a, b, c, d, e, f) := by
  have h' := h
  simp only [validC, Bool.and_eq_true, decide_eq_true_eq] at h'
  obtain ⟨⟨⟨hn, hb⟩, hv⟩, he⟩ := h'
  obtain ⟨n1, n2, n3⟩ := pNote_noted hn
  obtain ⟨i1, i2, i3, i4, i5⟩ := pInst_inst hb.1 hb.2
  obtain ⟨v1, v2, v3, v4, v5, v6⟩ := pVol_vol hv
  obtain ⟨e1, e2, e3, e4, e5, e6⟩ := pEff_eff he
  match hl : notedT a, n3 with
  | [x, y, z], _ =>
    rw [hl] at n1 n2
    have ht : cellT a b c d e f = [x, y, z, 32, i1, i2, 32, v1, v2, v3, 32, e1, e2, e3] := by
      simp [cellT, hl, i3, v4, e4]
    rw [ht]
    constructor
    · simp [parseP, n1, i4, v5, e5, pAll, h]
    · simp [parseR, n2, i5, v6, e6, gAll, h, ht]

theorem text_parse {l : List UInt8} {a b c d e f : Int} (h : parseP l = some (a, b, c, d, e, f)) : validC a b c d e f = true ∧ cellT a b c d e f = l := by
  unfold parseP at h
  split at h
  · rename_i x y z s1 i1 i2 s2 v1 v2 v3 s3 e1 e2 e3
    split at h
    · rename_i hs
      obtain ⟨rfl, rfl, rfl⟩ := hs
      unfold pAll at h
      split at h
      · rename_i n b' c' d' e' f' hn hb hv he
        split at h
        · rename_i hval
          cases h
          refine ⟨hval, ?_⟩
          have h' := hval
          simp only [validC, vpart, Bool.and_eq_true, decide_eq_true_eq] at h'
          rw [cellT, (noted_pNote hn).2, inst_pInst hb, vol_pVol hv h'.1.2.1.1.2, eff_pEff he]
          rfl
        · cases h
      · cases h
    · cases h
  · cases h

theorem parse_same (l : List UInt8) : parseP l = parseR l := by
  cases hp : parseP l with
  | some v =>
    obtain ⟨a, b, c, d, e, f⟩ := v
    obtain ⟨h1, h2⟩ := text_parse hp
    rw [← h2]
    exact (parse_text h1).2.symm
  | none =>
    cases hr : parseR l with
    | none => rfl
    | some v =>
      exfalso
      unfold parseR at hr
      split at hr
      · unfold gAll at hr
        split at hr
        · rename_i hc
          have := (parse_text hc.1).1
          rw [hc.2, hp] at this
          cases this
        · cases hr
      · cases hr

end Go.Proofs.Ytnnbhfoimaodhaa
