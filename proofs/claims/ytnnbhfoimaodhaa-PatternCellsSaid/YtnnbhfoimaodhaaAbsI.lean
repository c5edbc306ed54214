/-
  The abstract machine, part I: indices, arithmetic, comparisons.
-/
import Derived.Test.YtnnbhfoimaodhaaAbsH
import Derived.Laws.Strings
namespace Go.Abs
set_option linter.unusedVariables false
set_option linter.unusedSimpArgs false

theorem flatF_get {s : Nat} : ∀ {xs : List FV} {i j : Nat} {e a : FV}, (∀ x ∈ xs, x.cells.length = s) → xs[i]? = some e → e.cells[j]? = some a → (flatF xs)[i * s + j]? = some a
  | [], i, j, e, a, _, h, _ => by simp at h
  | x :: r, 0, j, e, a, hs, h, hj => by
    simp at h; subst h
    have hl : j < x.cells.length := (List.getElem?_eq_some_iff.1 hj).1
    simp only [flatF, Nat.zero_mul, Nat.zero_add]
    rw [List.getElem?_append, if_pos hl]; exact hj
  | x :: r, i + 1, j, e, a, hs, h, hj => by
    have hx := hs x (by simp)
    simp only [flatF]
    rw [List.getElem?_append, if_neg (by rw [hx, Nat.add_mul]; omega)]
    have ih := flatF_get (s := s) (fun y hy => hs y (by simp [hy])) (by simpa using h : r[i]? = some e) hj
    rw [← ih, hx]
    congr 1
    rw [Nat.add_mul]; omega

theorem indexAt_slice_run {P : Program} {t e : TypeId} {s len cap : Nat} {k : IntKind} {i : Int} {g o : Nat} (hu : P.underlying t = some (.slice e)) (hs : szT P e = some s)
    (h0 : 0 ≤ i) (h1 : i.toNat < len) (w : World) :
    Sem.run P (Instr.indexAt t (.slice (some ⟨g, o, none⟩) len cap) (.int k i)) w = .ok (.pointer (some ⟨g, o + i.toNat * s, none⟩)) w := by
  have : i < (len : Int) := by omega
  simp [Instr.indexAt, asIntOf, run_underlying P hu, run_sizeOf P hs, h0, this, Addr_add]

theorem indexAt_array_run {P : Program} {t e : TypeId} {s n : Nat} {k : IntKind} {i : Int} {g o : Nat} (hu : P.underlying t = some (.array n e)) (hs : szT P e = some s)
    (h0 : 0 ≤ i) (h1 : i.toNat < n) (w : World) :
    Sem.run P (Instr.indexAt t (.pointer (some ⟨g, o, none⟩)) (.int k i)) w = .ok (.pointer (some ⟨g, o + i.toNat * s, none⟩)) w := by
  have : i < (n : Int) := by omega
  simp [Instr.indexAt, asIntOf, run_underlying P hu, run_sizeOf P hs, h0, this, Addr_add, Instr.sureAddr]

theorem fref_of_row {G : Gh} {xs : List FV} {g o s s' : Nat} {vals : Nat → Value} {i : Nat} {e : FV} (hs : ∀ x ∈ xs, x.cells.length = s) (hs' : ∀ x ∈ xs, x.cells.length = s')
    (hF : ∀ (i : Nat) (a : FV), (flatF xs)[i]? = some a → G.F g (o + i) = some (vals i)) (hR : ∀ (i : Nat) (a : FV), (flatF xs)[i]? = some a → RelF G.F a (vals i))
    (he : xs[i]? = some e) : RelA G (.fref e 0) (.pointer (some ⟨g, o + i * s, none⟩)) := by
  have hm : e ∈ xs := List.mem_of_getElem? he
  have := RelA.fref (G := G) (e := e) (off := 0) (g := g) (o := o + i * s) (vals := fun j => vals (i * s + j))
    (fun j a hj => by rw [Nat.add_assoc]; exact hF _ a (flatF_get hs he hj)) (fun j a hj => hR _ a (flatF_get hs he hj))
  simpa using this

theorem indexAddr_sound {P : Program} {G : Gh} {t : TypeId} {x i v : AV} {xx xi : Value} (he : aIndexAddr P t x i = some v) (hx : RelA G x xx) (hi : RelA G i xi) (w : World) :
    ∃ y, Sem.run P (Instr.indexAt t xx xi) w = .ok y w ∧ RelA G v y := by
  unfold aIndexAddr at he
  split at he
  · rename_i k n
    cases relA_c hi
    split at he
    · cases he
    · rename_i hn
      have h0 : 0 ≤ n := by omega
      split at he
      · rename_i e hu
        split at he
        · rename_i s hs
          split at he
          · rename_i xs
            split at he
            · rename_i hc
              simp only [Option.map_eq_some_iff] at he
              obtain ⟨el, hel, rfl⟩ := he
              have hsz := allSize_iff.1 hc.2
              cases relA_c hx with
              | sl0 a cap => simp at hc
              | sl _ g o s' cap vals hs' hcap hF hR ho =>
                refine ⟨_, indexAt_slice_run hu hs h0 hc.1 w, ?_⟩
                exact fref_of_row hsz hs' hF hR hel
            · cases he
          · rename_i tag xs
            split at he
            · rename_i hc
              simp only [Option.map_eq_some_iff] at he
              obtain ⟨el, hel, rfl⟩ := he
              have hsz := allSize_iff.1 hc.2
              cases hx with
              | fz hτ hcap hs0 hs' hF hR ho =>
                refine ⟨_, indexAt_slice_run hu hs h0 hc.1 w, ?_⟩
                exact fref_of_row hsz hs' hF hR hel
            · cases he
          · rename_i b off len s' full
            split at he
            · rename_i hc
              obtain ⟨hc1, hc2⟩ := hc
              subst hc1
              simp at he; subst he
              cases hx with
              | @sl _ _ _ _ _ B a cap hB ha hl hr hf hk =>
                have hcap : cap ≠ 0 := by omega
                rw [ha hcap]
                refine ⟨_, indexAt_slice_run hu hs h0 hc2 w, ?_⟩
                have := RelA.ref (G := G) (b := b) (off := off + n.toNat * s') hB
                simpa [Nat.add_assoc] using this
            · cases he
          · cases he
        · cases he
      · rename_i len e hu
        split at he
        · rename_i s hs
          split at he
          · rename_i hlt
            split at he
            · rename_i b off
              simp at he; subst he
              cases hx with
              | @ref _ _ B hB =>
                refine ⟨_, indexAt_array_run hu hs h0 hlt w, ?_⟩
                have := RelA.ref (G := G) (b := b) (off := off + n.toNat * s) hB
                simpa [Nat.add_assoc] using this
            · rename_i e off
              simp at he; subst he
              cases hx with
              | @fref _ _ g o vals hF hR =>
                refine ⟨_, indexAt_array_run hu hs h0 hlt w, ?_⟩
                have := RelA.fref (G := G) (e := e) (off := off + n.toNat * s) hF hR
                simpa [Nat.add_assoc] using this
            · cases he
          · cases he
        · cases he
      · cases he
  · cases he

theorem str_get (s : ByteArray) (i : Nat) : s[i]? = s.data.toList[i]? := by
  rw [Array.getElem?_toList]
  rfl

theorem index_sound {P : Program} {G : Gh} {t : TypeId} {x i v : AV} {xx xi : Value} (he : aIndex P t x i = some v) (hx : RelA G x xx) (hi : RelA G i xi) (w : World) :
    ∃ y, Sem.run P (Instr.index t xx xi) w = .ok y w ∧ RelA G v y := by
  unfold aIndex at he
  split at he
  · rename_i k n
    cases relA_c hi
    split at he
    · cases he
    · rename_i hn
      have h0 : 0 ≤ n := by omega
      split at he
      · rename_i hu
        split at he
        · rename_i s
          simp only [Option.map_eq_some_iff] at he
          obtain ⟨b, hb, rfl⟩ := he
          cases relA_c hx with
          | str s =>
            rw [← str_get] at hb
            refine ⟨.int .u8 b.toNat, ?_, .c (.int _ _)⟩
            simp [Instr.index, asIntOf, run_underlying P hu, h0, hb]
        · cases he
      · rename_i len e hu
        split at he
        · rename_i s cs hs
          split at he
          · rename_i hlt
            obtain ⟨vs, rfl, hr⟩ := agg_rel_of hx
            obtain ⟨y, k1, k2⟩ := run_part (P := P) he hr w
            have : n < (len : Int) := by omega
            exact ⟨y, by simp [Instr.index, asIntOf, run_underlying P hu, h0, this, run_sizeOf P hs, k1], k2⟩
          · cases he
        · rename_i s cs hs
          split at he
          · rename_i hlt
            cases hx with
            | agg hl hr =>
              obtain ⟨y, k1, k2⟩ := run_part (P := P) he ⟨hl, hr⟩ w
              have : n < (len : Int) := by omega
              exact ⟨y, by simp [Instr.index, asIntOf, run_underlying P hu, h0, this, run_sizeOf P hs, k1], k2⟩
          · cases he
        · cases he
      · cases he
  · cases he

end Go.Abs
