/-
  The abstract machine, part Ya: walks over maps.
-/
import Derived.Test.YtnnbhfoimaodhaaAbsY
namespace Go.Abs
set_option linter.unusedVariables false
set_option linter.unusedSimpArgs false

theorem leftOf_mem {seen : List Nat} : ∀ {es : List (FV × AV)} {born : List Nat} {p : FV × AV × Nat}, p ∈ leftOf seen es born → ∃ i : Nat, es[i]? = some (p.1, p.2.1) ∧ born[i]? = some p.2.2 ∧ seen.contains p.2.2 = false
  | [], _, p, h => by simp [leftOf] at h
  | _ :: _, [], p, h => by simp [leftOf] at h
  | (k, v) :: es, n :: born, p, h => by
    simp only [leftOf] at h
    cases hc : seen.contains n with
    | true =>
      rw [hc] at h
      obtain ⟨i, h1, h2, h3⟩ := leftOf_mem h
      exact ⟨i + 1, by simpa using h1, by simpa using h2, h3⟩
    | false =>
      rw [hc] at h
      rcases List.mem_cons.1 h with rfl | h
      · exact ⟨0, rfl, rfl, hc⟩
      · obtain ⟨i, h1, h2, h3⟩ := leftOf_mem h
        exact ⟨i + 1, by simpa using h1, by simpa using h2, h3⟩

theorem leftOf_nil {seen : List Nat} : ∀ {es : List (FV × AV)} {born : List Nat}, leftOf seen es born = [] → es.length = born.length → ∀ n ∈ born, seen.contains n = true
  | [], [], _, _, n, h => by simp at h
  | [], _ :: _, _, hl, _, _ => by simp at hl
  | _ :: _, [], _, _, n, h => by simp at h
  | (k, v) :: es, m :: born, h, hl, n, hn => by
    simp only [leftOf] at h
    cases hc : seen.contains m with
    | true =>
      rw [hc] at h
      rcases List.mem_cons.1 hn with rfl | hn
      · exact hc
      · exact leftOf_nil h (by simpa using hl) n hn
    | false => rw [hc] at h; cases h

theorem leftOf_le (seen : List Nat) (x : Nat) : ∀ (es : List (FV × AV)) (born : List Nat), (leftOf (seen ++ [x]) es born).length ≤ (leftOf seen es born).length
  | [], _ => by simp [leftOf]
  | _ :: _, [] => by simp [leftOf]
  | (k, v) :: es, n :: born => by
    have ih := leftOf_le seen x es born
    simp only [leftOf]
    cases hc : seen.contains n with
    | true =>
      have : (seen ++ [x]).contains n = true := by simp at hc ⊢; exact .inl hc
      rw [this]; exact ih
    | false =>
      cases hd : (seen ++ [x]).contains n with
      | true => simp; omega
      | false => simp; exact ih

theorem leftOf_lt {seen : List Nat} : ∀ {es : List (FV × AV)} {born : List Nat} {p : FV × AV × Nat}, p ∈ leftOf seen es born → (leftOf (seen ++ [p.2.2]) es born).length < (leftOf seen es born).length
  | [], _, p, h => by simp [leftOf] at h
  | _ :: _, [], p, h => by simp [leftOf] at h
  | (k, v) :: es, n :: born, p, h => by
    simp only [leftOf] at h ⊢
    cases hc : seen.contains n with
    | true =>
      rw [hc] at h
      have : (seen ++ [p.2.2]).contains n = true := by simp at hc ⊢; exact .inl hc
      rw [this]
      exact leftOf_lt h
    | false =>
      rw [hc] at h
      have hle := leftOf_le seen p.2.2 es born
      rcases List.mem_cons.1 h with rfl | h
      · have : (seen ++ [n]).contains n = true := by simp
        rw [this]
        simp only [cond_true, cond_false, List.length_cons]
        show (leftOf (seen ++ [n]) es born).length < _
        exact Nat.lt_succ_of_le hle
      · have := leftOf_lt h
        cases hd : (seen ++ [p.2.2]).contains n with
        | true => simp; omega
        | false => simp; exact this

theorem resK_next {P : Program} {K : Env → St → Prop} {Q : AQ} {env : Env} {S : St} {d : Option Tmp} {b m clock : Nat} {seen : List Nat} {l : List (FV × AV × Nat)}
    (h0 : l = [] → K (env.setO d (.tup [.c (.bool false)])) S) (h1 : ∀ p ∈ l, K (env.setO d (.tup [.c (.bool true), .c p.1, p.2.1])) (S.put b (.miter m clock (seen ++ [p.2.2])))) :
    resK P K Q env S d (some (nextRes b m clock seen l)) := by
  cases l with
  | nil => exact h0 rfl
  | cons x r =>
    intro q hq
    obtain ⟨p, hp, rfl⟩ := List.mem_map.1 hq
    exact h1 p hp

end Go.Abs
