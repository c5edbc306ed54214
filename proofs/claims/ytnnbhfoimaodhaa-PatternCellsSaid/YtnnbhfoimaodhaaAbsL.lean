/-
  The abstract machine, part L: append and copy.
-/
import Derived.Test.YtnnbhfoimaodhaaAbsK
namespace Go.Abs
set_option linter.unusedVariables false
set_option linter.unusedSimpArgs false

theorem append_room_run {P : Program} {t t' e ty : TypeId} {i : TypeInfo} {u : TypeDesc} {base : Option Addr} {sLen sCap k : Nat} {vy : Value} {new : List Value} {w w1 : World}
    (hu : P.underlying t = some (.slice e)) (hi : P.info? e = some i) (hu' : P.underlying t' = some u) (hz : u = .string ∨ ∃ e', u = .slice e')
    (hl : Sem.run P (Builtin.lenOf vy) w = .ok k w) (hc : Sem.run P (Builtin.firstCells i.size k vy) w = .ok new.toArray w) (hroom : sLen + k ≤ sCap)
    (hst : ∀ a, base = some a → Sem.run P (storeCells (a.add (sLen * i.size)) new) w = .ok () w1) (hb : base = none → w1 = w) :
    Sem.run P (Builtin.append_ #[t, t'] ty #[.slice base sLen sCap, vy]) w = .ok (.slice base (sLen + k) sCap) w1 := by
  have hs : Sem.run P (sizeOf e) w = .ok i.size w := run_sizeOf P (by simp [szT, hi]) w
  rcases hz with rfl | ⟨e', rfl⟩
  all_goals
    cases base with
    | none =>
      rw [hb rfl]
      simp [Builtin.append_, run_underlying P hu, run_underlying P hu', hs, hl, hroom, hc]
    | some a =>
      have := hst a rfl
      simp [Builtin.append_, run_underlying P hu, run_underlying P hu', hs, hl, hroom, hc, this]

theorem append_grow_run {P : Program} {t t' e ty : TypeId} {i : TypeInfo} {u : TypeDesc} {base : Option Addr} {sLen sCap k : Nat} {vy z : Value} {old new : List Value} {w : World}
    (hu : P.underlying t = some (.slice e)) (hi : P.info? e = some i) (hu' : P.underlying t' = some u) (hz : u = .string ∨ ∃ e', u = .slice e')
    (hl : Sem.run P (Builtin.lenOf vy) w = .ok k w) (h2 : Sem.run P (Builtin.firstCells i.size k vy) w.drew = .ok new.toArray w.drew) (hgrow : sCap < sLen + k)
    (h1 : Sem.run P (Builtin.firstCells i.size sLen (.slice base sLen sCap)) w.drew = .ok old.toArray w.drew)
    (hzero : i.zero = some z) (hb0 : i.bytes ≠ 0) (hmax : (sLen + k) * i.bytes ≤ maxLenA) :
    ∃ newCap rest, sLen + k ≤ newCap ∧ rest.length = (newCap - (sLen + k)) * z.cells.size ∧
      Sem.run P (Builtin.append_ #[t, t'] ty #[.slice base sLen sCap, vy]) w =
        .ok (.slice (some ⟨w.heap.size, 0, none⟩) (sLen + k) newCap) (wh (drew w) (w.heap.push (.cells (old ++ new ++ rest).toArray e (0, 0)))) := by
  have hs : ∀ w1, Sem.run P (sizeOf e) w1 = .ok i.size w1 := fun w1 => run_sizeOf P (by simp [szT, hi]) w1
  have hti : ∀ w1, Sem.run P (typeInfo e) w1 = .ok i w1 := run_typeInfo P hi
  have hn : ¬ (sLen + k ≤ sCap) := by omega
  have hnc : ¬ (281474976710656 < Builtin.nextslicecap (sLen + k) sCap * i.bytes) := by
    have h1 := nextslicecap_le hgrow
    have h2 : Builtin.nextslicecap (sLen + k) sCap * i.bytes ≤ 2 * (sLen + k) * i.bytes := Nat.mul_le_mul_right _ h1
    have h3 : 2 * (sLen + k) * i.bytes = 2 * ((sLen + k) * i.bytes) := by rw [Nat.mul_assoc]
    unfold maxLenA at hmax
    omega
  have hq : (Question.appendCap (sLen + k) sCap e).forced = false := rfl
  have hge : sLen + k ≤ (Question.appendCap (sLen + k) sCap e).cut (w.tape w.drawn (.appendCap (sLen + k) sCap e)) := Nat.le_add_right _ _
  generalize hnew : (Question.appendCap (sLen + k) sCap e).cut (w.tape w.drawn (.appendCap (sLen + k) sCap e)) = newCap at hge
  have hzv : ∀ w1, Sem.run P (zeroValue e) w1 = .ok z w1 := fun w1 => by simp [zeroValue, hti, hzero]
  have hroom : ∀ n w1, Sem.run P (askRoom n) w1 = .ok () w1 := fun n w1 => by
    unfold askRoom; split <;> simp [mark, Sem.run]
  have h63 : ¬ (9223372036854775807 < ((sLen : Int) + (k : Int))) := by
    have : sLen + k ≤ (sLen + k) * i.bytes := Nat.le_mul_of_pos_right _ (by omega)
    unfold maxLenA at hmax
    omega
  refine ⟨newCap, (Builtin.zeroCells z.cells (newCap - (sLen + k))).toList, hge, by simp [Builtin.zeroCells], ?_⟩
  have hrow : ∀ (cells : Array Value) (w1 : World), Sem.run P (newRow e cells) w1 = .ok ⟨w1.heap.size, 0, none⟩ (wh w1 (w1.heap.push (.cells cells e (0, 0)))) := fun cells w1 => by
    simp [newRow, newObj, Sem.run, wh]
  have harr : (old.toArray ++ (new.toArray ++ Builtin.zeroCells z.cells (newCap - (sLen + k)))) = (old ++ (new ++ (Builtin.zeroCells z.cells (newCap - (sLen + k))).toList)).toArray := by
    apply Array.ext'; simp
  rcases hz with rfl | ⟨e', rfl⟩
  all_goals
    simp [Builtin.append_, run_underlying P hu, run_underlying P hu', hs, hti, hl, hn, hb0, hnc, hq, hnew, hroom, h1, h2, hzv, h63, hrow]
    rw [harr]; rfl

theorem reads_heap {G : Gh} {S : St} {w : World} (h : Inv G S w) (w1 : World) (e : w1.heap = w.heap) : Inv G S w1 := by
  have hc : ∀ a, w1.cell? a = w.cell? a := fun a => by simp [World.cell?, e]
  refine ⟨h.wf, fun g o v hv => by rw [hc]; exact h.cells g o v hv, fun b ob hb hl => ?_, h.apart, ?_, h.tags, h.nodup, h.fresh, fun b B hb => by rw [e]; exact h.born b B hb⟩
  · obtain ⟨B, h1, h2⟩ := h.obs b ob hb hl
    exact ⟨B, h1, h2.keep (.refl G) (fun _ _ hj => hj) (by rw [e])⟩
  · intro t ht
    obtain ⟨g, st, en, s, k1, ⟨C, T, lo, hi, k2, k3, k4⟩, k5, k6⟩ := h.spare t ht
    exact ⟨g, st, en, s, k1, ⟨C, T, lo, hi, by rw [e]; exact k2, k3, k4⟩, k5, k6⟩

theorem inv_del {G : Gh} {S : St} {w : World} (h : Inv G S w) {b : Nat} {ob0 : Ob} {B : Base} (hb : S.get b = some ob0) (hl0 : ob0.live = true) (hB : G.ρ b = some B) :
    Inv G (S.del b) w ∧ Ext G S w G (S.del b) w ∧ ¬ Own G (S.del b) B.g := by
  have hg := h.born b B hB
  have e : wh w (w.heap.setIfInBounds B.g w.heap[B.g]) = w := by
    have : w.heap.setIfInBounds B.g w.heap[B.g] = w.heap := by
      apply Array.ext
      · simp
      · intro j h1 h2
        by_cases hj : B.g = j
        · subst hj; simp
        · rw [Array.getElem_setIfInBounds (by simpa using h1)]; simp [hj]
    rw [this]; rfl
  have := inv_kill h hb hl0 hB w.heap[B.g] (fun j v hj => by rw [e]; exact h.cells _ _ _ hj)
  rwa [e] at this

theorem appU {P : Program} {t' : TypeId} {str : Bool} (h : (match P.underlying t' with | some (.int _) => none | some .string => some true | some (.slice _) => some false | _ => none) = some str) :
    ∃ u, P.underlying t' = some u ∧ (u = .string ∨ ∃ e', u = .slice e') := by
  split at h
  · cases h
  · rename_i hu; exact ⟨_, hu, .inl rfl⟩
  · rename_i e' hu; exact ⟨_, hu, .inr ⟨e', rfl⟩⟩
  · cases h

theorem readsArg {P : Program} {G : Gh} {S : St} {w : World} (h : Inv G S w) {s k : Nat} {str : Bool} {y : AV} {vy : Value} {new : List AV}
    (he : (bif str then (match y with | .c (.str l) => some (byteCells l, l.length) | _ => none) else rowCells s S y) = some (new, k)) (hk : k * s = new.length) (hy : RelA G y vy)
    (w1 : World) (e : w1.heap = w.heap) : Reads P G w1 s new k vy := by
  cases str with
  | false =>
    simp only [cond_false] at he
    exact reads_row (reads_heap h w1 e) he hy
  | true =>
    simp only [cond_true] at he
    split at he
    · rename_i l
      simp only [Option.some.injEq, Prod.mk.injEq] at he
      obtain ⟨rfl, rfl⟩ := he
      have hr := reads_str (P := P) (w := w1) hy
      by_cases hl : l.length = 0
      · refine ⟨by rw [byteCells_length, hl]; simp, hr.lenOf, fun n hn => ?_⟩
        have hn0 : n = 0 := by omega
        subst hn0
        obtain ⟨vs, k1, k2, k3⟩ := hr.cells 0 (by omega)
        refine ⟨vs, ?_, by simpa using k2, k3⟩
        rw [← k1]
        cases relA_c hy with
        | str bs => rfl
      · rw [byteCells_length] at hk
        have : s = 1 := by
          rcases Nat.lt_or_ge s 2 with h1 | h1
          · rcases Nat.lt_or_ge s 1 with h2 | h2
            · have : s = 0 := by omega
              subst this; omega
            · omega
          · have : l.length * 2 ≤ l.length * s := Nat.mul_le_mul_left _ h1
            omega
        subst this
        exact hr
    · cases he

end Go.Abs
