/-
  Walks at TextIgnores: the reader of a song, line by line. Conditions: the lengths that each theorem states.
-/
import Derived.Test.YtgjnimemofmncaaGreatDoorMD
set_option linter.unusedVariables false
set_option linter.unusedSimpArgs false
namespace Go.Proofs.YtgjnimemofmncaaGreatDoor
open Go.Abs Go.Tx
set_option maxHeartbeats 1000000
set_option maxRecDepth 20000
theorem beq_byte (b c : UInt8) : ((b.toNat : Int) == (c.toNat : Int)) = (b == c) := by
  cases hb : b == c with
  | true =>
    have := beq_iff_eq.1 hb
    subst this; simp
  | false =>
    rw [beq_eq_false_iff_ne] at hb ⊢
    intro e
    exact hb (UInt8.toNat_inj.1 (by omega))
theorem byte_34 (b : UInt8) : ((b.toNat : Int) == 34) = (b == 34) := beq_byte b 34
theorem byte_92 (b : UInt8) : ((b.toNat : Int) == 92) = (b == 92) := beq_byte b 92
theorem nameL_quote (out r : Bs) : nameL (34 :: r) out = if out.length ≤ 22 then some (out, r) else none := by rw [nameL.eq_def]; simp
theorem nameL_bs (d : UInt8) (out q : Bs) : nameL (92 :: d :: q) out = if d = 34 ∨ d = 92 then nameL q (out ++ [d]) else none := by rw [nameL.eq_def]; simp
theorem nameL_bs0 (out : Bs) : nameL [92] out = none := by rw [nameL.eq_def]; simp
theorem nameL_pr (c : UInt8) (out r : Bs) (h1 : c ≠ 34) (h2 : c ≠ 92) : nameL (c :: r) out = if isPr c then nameL r (out ++ [c]) else none := by rw [nameL.eq_def]; simp [h1, h2]
inductive BytG (S : St) (l : List UInt8) : AV → St → Prop
  | nil {T : St} (h : FR S [] T) (hl : l = []) : BytG S l (.c .nils) T
  | row {b : Nat} {T : St} (h : FR S [(b, .blk (byteCells l) 0 5)] T) (hl : 0 < l.length) : BytG S l (.sl b 0 l.length 1 false) T
theorem BytG.fr {S T : St} {l : List UInt8} {v : AV} (h : BytG S l v T) : FR S [] T := by
  cases h with
  | nil h _ => exact h
  | row h _ => exact h.drop
theorem BytG.nilNew {S T : St} (h : FR S [] T) (c : UInt8) : BytG S [c] (.sl (T.next + 1) 0 1 1 false) ((T.new (.blk [.c (.int .u8 c.toNat)] 0 5)).new (.blk [.c (.int .u8 c.toNat)] 0 5)) :=
  .row (l := [c]) ((h.tmp _).new (.blk (byteCells [c]) 0 5)) (by simp)
theorem BytG.rowNew {S T : St} {l : List UInt8} {b : Nat} (h : FR S [(b, .blk (byteCells l) 0 5)] T) (c : UInt8) :
    BytG S (l ++ [c]) (.sl (T.next + 1) 0 (l.length + 1) 1 false) (((T.new (.blk [.c (.int .u8 c.toNat)] 0 5)).put b .dead).new (.blk (byteCells l ++ [.c (.int .u8 c.toNat)]) 0 5)) := by
  have h2 := ((h.tmp (.blk [.c (.int .u8 c.toNat)] 0 5)).put .dead).new (.blk (byteCells l ++ [.c (.int .u8 c.toNat)]) 0 5)
  have e1 : byteCells l ++ [.c (.int .u8 c.toNat)] = byteCells (l ++ [c]) := by simp [byteCells]
  have e2 : l.length + 1 = (l ++ [c]).length := by simp
  rw [e1] at h2 ⊢
  rw [e2]
  exact .row (h2.sub (List.Sublist.cons_cons _ (List.nil_sublist _))) (by simp)
section
variable {S : St} {rb : Nat} {lv : FV} {n : Int} {song : List AV} (hr : S.get rb = some (.blk (rdC lv n song) 0 74)) (h0 : 1 ≤ n) (h1 : n ≤ 4000000000)
include hr h0 h1
abbrev nameV (p : Bs × Bs) : AV := .tup [str p.1, str p.2]
theorem wc46 (t : Bs) (hn : t.length ≤ 1000000000) : WC Tryz.prog 46 [.ref rb 0, str t] (OptIs nameV n S (nameP t)) S := by
  refine wc_fwd ?_
  refine wc_fn (fn := Tryz.f46) (N := 76) (rs := [.tmp 4, .tmp 5]) (by rfl) (by kernel_rfl) (by rfl) (by rfl) (by rfl) (by rfl) fun hS => ?_
  have hlt := hS.1 rb _ hr
  simp only [go_sem, ne_dn1, ne_up3, ne_up4, ne_up5, Nat.reduceAdd, Nat.reduceEqDiff, Nat.reduceLT]
  refine wc_is (wc45 t [34] _) ?_
  cases t with
  | nil =>
    have e0 : Lib.hasPrefix [] [34] = false := rfl
    simp only [e0, go_sem, ne_up1, ne_up2, Nat.reduceLT]
    refine wc_must hr h0 h1 (fun h => by cases h) (fun _ => ?_)
    simp only [go_sem]
    exact .inl ⟨rfl, rfl⟩
  | cons c r =>
  by_cases hc : c = 34
  case neg =>
    have e0 : Lib.hasPrefix (c :: r) [34] = false := by simp [Lib.hasPrefix, List.isPrefixOf]; exact fun e => hc e.symm
    have e1 : nameP (c :: r) = none := by simp [nameP, hc]
    simp only [e0, go_sem, ne_up1, ne_up2, Nat.reduceLT]
    refine wc_must hr h0 h1 (fun h => by cases h) (fun _ => ?_)
    simp only [go_sem]
    exact .inl ⟨rfl, by rw [e1]⟩
  subst hc
  have e0 : Lib.hasPrefix (34 :: r) [34] = true := by simp [Lib.hasPrefix, List.isPrefixOf]
  have e1 : nameP (34 :: r) = nameL r [] := by simp [nameP]
  rw [e1]
  simp only [e0, go_sem, ne_up1, ne_up2, Nat.reduceLT]
  refine wc_must hr h0 h1 (fun _ => ?_) (fun h => by cases h)
  have hr0 : r = (34 :: r).drop 1 := rfl
  generalize ht : (34 :: r : List UInt8) = t at *
  have hpos : 1 ≤ t.length := by rw [← ht]; simp
  rw [hr0]
  clear hr0 ht e0 e1 r
  simp only [go_sem, Nat.reduceLT]
  refine wloop_meas (fun m' e S' => ∃ (k : Nat) (out : Bs) (v : AV), m' = t.length - k ∧ k ≤ t.length ∧ out.length ≤ k ∧ BytG S out v S' ∧ nameL (t.drop k) out = nameL (t.drop 1) [] ∧
    e.get 0 = .ref rb 0 ∧ e.get 1 = str t ∧ e.get 6 = v ∧ e.get 7 = i64 k) ?_ (t.length - 1) _ _ ?_
  · rintro m' e S' ⟨k, out, v, rfl, hk, hok, hg, hm, g0, g1, g6, g7⟩
    have hr' : S'.get rb = some (.blk (rdC lv n song) 0 74) := by rw [hg.fr.old rb hlt]; exact hr
    rcases Nat.lt_or_ge k t.length with hlt' | hge
    · have q1 : ((k : Int) < (t.length : Int)) := by omega
      have q2 : ¬ ((k : Int) < 0) := by omega
      have q3 : t[k]? = some t[k] := by simp [hlt']
      have q5 := step_wrap k (by omega)
      have hd : t.drop k = t[k] :: t.drop (k + 1) := List.drop_eq_getElem_cons hlt'
      rw [hd] at hm
      generalize t[k] = c at *
      simp only [g1, g7, q1, q2, q3, byte_34, Int.toNat_natCast, Option.map_some, go_sem, ne_up1, ne_up2, ne_up6, Nat.reduceEqDiff, Nat.reduceLT]
      by_cases c1 : c = 34
      · subst c1
        have b1 : ((34 : UInt8) == 34) = true := rfl
        rw [nameL_quote] at hm
        by_cases hl : out.length ≤ 22
        · have hl1 : ((out.length : Int) ≤ 22) = True := by simp; omega
          have hl2 : ((0 : Int) ≤ 22) = True := by simp
          have q6 : (0 : Int) ≤ ((k + 1 : Nat) : Int) := by omega
          have q7 : k + 1 ≤ t.length := by omega
          rw [if_pos hl] at hm
          have ez : (t.drop (k + 1)).take (t.length - (k + 1)) = t.drop (k + 1) := List.take_of_length_le (by rw [List.length_drop]; omega)
          cases hg with
          | nil h hl0 =>
            simp only [g0, g6, b1, hl2, go_sem, ne_up1, ne_up2, ne_up3, Int.cast_ofNat_Int, Nat.reduceEqDiff, Nat.reduceLT]
            refine wc_must hr' h0 h1 (fun _ => ?_) (fun h => by cases h)
            simp only [go_sem]
            refine wdraw_plan ch46x9 pp46x9 (by kernel_rfl) (by kernel_rfl) (by kernel_rfl) ?_
            simp only [g1, g6, g7, q5, q6, q7, Int.toNat_natCast, Nat.le_refl, List.take_length, go_sem, ne_up1, ne_up2, ne_up3, ne_up4, ne_up6, bytesOf, Nat.reduceEqDiff, Nat.reduceLT]
            refine ends_fwd (h.fwd hS) rfl (.inl ⟨rfl, ?_⟩)
            rw [← hm, hl0]
          | row h hp =>
            have hb := h.get1
            have hlb : (byteCells out).length = out.length := byteCells_length out
            have htk : (byteCells out).take out.length = byteCells out := List.take_of_length_le (by omega)
            have hbo := bytesOf_cells out
            simp only [g0, g6, b1, hl1, go_sem, ne_up1, ne_up2, ne_up3, Nat.reduceEqDiff, Nat.reduceLT]
            refine wc_must hr' h0 h1 (fun _ => ?_) (fun h => by cases h)
            simp only [go_sem]
            refine wdraw_plan ch46x9 pp46x9 (by kernel_rfl) (by kernel_rfl) (by kernel_rfl) ?_
            simp only [Option.map_some, Nat.mul_one, Nat.zero_add, List.drop_zero, g1, g6, g7, hb, hlb, htk, hbo, q5, q6, q7, Int.toNat_natCast, Nat.le_refl, List.take_length, go_sem, ne_up1, ne_up2, ne_up3, ne_up4, ne_up6, Nat.reduceEqDiff, Nat.reduceLT]
            refine ends_fwd (h.fwd hS) rfl (.inl ⟨rfl, ?_⟩)
            rw [← hm]
        · have hl1 : ((out.length : Int) ≤ 22) = False := by simp; omega
          rw [if_neg hl] at hm
          cases hg with
          | nil h hl0 => rw [hl0] at hl; simp at hl
          | row h hp =>
            simp only [g0, g6, b1, hl1, go_sem, ne_up1, ne_up2, ne_up3, Nat.reduceEqDiff, Nat.reduceLT]
            refine wc_must hr' h0 h1 (fun h => by cases h) (fun _ => ?_)
            simp only [go_sem]
            exact .inr ⟨rfl, h.fwd hS, ⟨rfl, by rw [← hm]⟩⟩
      have b1 : (c == 34) = false := by simpa using c1
      by_cases c2 : c = 92
      · subst c2
        have b2 : ((92 : UInt8) == 92) = true := rfl
        rcases Nat.lt_or_ge (k + 1) t.length with hk1 | hk1
        · have q1' : (((k + 1 : Nat) : Int) < (t.length : Int)) := by omega
          have q2' : ¬ (((k + 1 : Nat) : Int) < 0) := by omega
          have q3' : t[k + 1]? = some t[k + 1] := by simp [hk1]
          have q5' := step_wrap (k + 1) (by omega)
          have hd' : t.drop (k + 1) = t[k + 1] :: t.drop (k + 1 + 1) := List.drop_eq_getElem_cons hk1
          rw [hd', nameL_bs] at hm
          generalize t[k + 1] = d at *
          by_cases d1 : d = 34
          · subst d1
            have b3 : ((34 : UInt8) == 34) = true := rfl
            have hp : isPr 34 = true := rfl
            rw [if_pos (.inl rfl)] at hm
            simp only [g0, g1, g7, b1, b2, b3, q5, q1', q2', q3', byte_34, byte_92, Int.toNat_natCast, Option.map_some, go_sem, ne_up1, ne_up2, ne_up3, ne_up4, ne_up5, ne_up6, Nat.reduceEqDiff, Nat.reduceLT]
            refine wc_must hr' h0 h1 (fun _ => ?_) (fun h => by cases h)
            have hm : (if isPr 34 = true then nameL (t.drop (k + 1 + 1)) (out ++ [34]) else none) = nameL (t.drop 1) [] := hm
            have u1 : decide (((34 : UInt8).toNat : Int) ≥ 32) = true := rfl
            have u2 : decide (((34 : UInt8).toNat : Int) ≤ 126) = true := rfl
            simp only [g0, g1, q2', q3', u1, u2, Int.toNat_natCast, Option.map_some, go_sem, ne_up1, ne_up2, ne_up3, ne_up4, ne_up5, ne_up6, Nat.reduceEqDiff, Nat.reduceLT]
            rw [hp, if_pos rfl] at hm
            refine wc_must hr' h0 h1 (fun _ => ?_) (fun h => by cases h)
            cases hg with
            | nil h hl0 =>
              subst hl0
              simp only [t5b, t5s, t5z, size_one, Option.map_some, Nat.mul_one, Nat.zero_add, List.drop_zero, List.map_cons, List.map_nil, g0, g1, g6, q5', go_sem, maxLenA, ne_up1, ne_dn1, ne_up2, ne_up5, ne_up6, Nat.reduceEqDiff, Nat.reduceLT, Nat.reduceLeDiff]
              exact ⟨t.length - (k + 1 + 1), by omega, k + 1 + 1, [(34 : UInt8)], _, rfl, by omega, by simp, BytG.nilNew h (34 : UInt8), hm, rfl, rfl⟩
            | row h hpos =>
              rename_i b
              have hb := h.get1
              have hbn : (S'.next = b) = False := h.new_ne (List.mem_cons_self ..)
              have hbn2 : (S'.next + 1 = b) = False := eq_false (by have := h.lt (List.mem_cons_self ..); omega)
              have hlb : (byteCells out).length = out.length := byteCells_length out
              have zt : (byteCells out).take out.length = byteCells out := List.take_of_length_le (by omega)
              have z1 : out.length + 1 ≤ 140737488355328 := by omega
              have z2 : ¬ (out.length + 1 ≤ out.length) := by omega
              simp only [t5b, t5s, t5z, size_one, Option.map_some, Nat.mul_one, Nat.zero_add, Nat.zero_le, List.drop_zero, List.map_cons, List.map_nil, g0, g1, g6, q5', hb, hbn, hlb, zt, z1, z2, Nat.le_refl, go_sem, maxLenA, ne_up1, ne_dn1, ne_up2, ne_up5, ne_up6, Nat.reduceSub, Nat.reduceEqDiff, Nat.reduceLT, Nat.reduceLeDiff]
              exact ⟨t.length - (k + 1 + 1), by omega, k + 1 + 1, out ++ [(34 : UInt8)], _, rfl, by omega, by rw [List.length_append, List.length_singleton]; omega, BytG.rowNew h (34 : UInt8), hm, rfl, rfl⟩
          by_cases d2 : d = 92
          · subst d2
            have b3 : ((92 : UInt8) == 34) = false := rfl
            have b4 : ((92 : UInt8) == 92) = true := rfl
            have hp : isPr 92 = true := rfl
            rw [if_pos (.inr rfl)] at hm
            simp only [g0, g1, g7, b1, b2, q5, q1', q2', q3', byte_34, byte_92, Int.toNat_natCast, Option.map_some, go_sem, ne_up1, ne_up2, ne_up3, ne_up4, ne_up5, ne_up6, Nat.reduceEqDiff, Nat.reduceLT]
            refine wc_must hr' h0 h1 (fun _ => ?_) (fun h => by cases h)
            have hm : (if isPr 92 = true then nameL (t.drop (k + 1 + 1)) (out ++ [92]) else none) = nameL (t.drop 1) [] := hm
            have u1 : decide (((92 : UInt8).toNat : Int) ≥ 32) = true := rfl
            have u2 : decide (((92 : UInt8).toNat : Int) ≤ 126) = true := rfl
            simp only [g0, g1, q2', q3', u1, u2, Int.toNat_natCast, Option.map_some, go_sem, ne_up1, ne_up2, ne_up3, ne_up4, ne_up5, ne_up6, Nat.reduceEqDiff, Nat.reduceLT]
            rw [hp, if_pos rfl] at hm
            refine wc_must hr' h0 h1 (fun _ => ?_) (fun h => by cases h)
            cases hg with
            | nil h hl0 =>
              subst hl0
              simp only [t5b, t5s, t5z, size_one, Option.map_some, Nat.mul_one, Nat.zero_add, List.drop_zero, List.map_cons, List.map_nil, g0, g1, g6, q5', go_sem, maxLenA, ne_up1, ne_dn1, ne_up2, ne_up5, ne_up6, Nat.reduceEqDiff, Nat.reduceLT, Nat.reduceLeDiff]
              exact ⟨t.length - (k + 1 + 1), by omega, k + 1 + 1, [(92 : UInt8)], _, rfl, by omega, by simp, BytG.nilNew h (92 : UInt8), hm, rfl, rfl⟩
            | row h hpos =>
              rename_i b
              have hb := h.get1
              have hbn : (S'.next = b) = False := h.new_ne (List.mem_cons_self ..)
              have hbn2 : (S'.next + 1 = b) = False := eq_false (by have := h.lt (List.mem_cons_self ..); omega)
              have hlb : (byteCells out).length = out.length := byteCells_length out
              have zt : (byteCells out).take out.length = byteCells out := List.take_of_length_le (by omega)
              have z1 : out.length + 1 ≤ 140737488355328 := by omega
              have z2 : ¬ (out.length + 1 ≤ out.length) := by omega
              simp only [t5b, t5s, t5z, size_one, Option.map_some, Nat.mul_one, Nat.zero_add, Nat.zero_le, List.drop_zero, List.map_cons, List.map_nil, g0, g1, g6, q5', hb, hbn, hlb, zt, z1, z2, Nat.le_refl, go_sem, maxLenA, ne_up1, ne_dn1, ne_up2, ne_up5, ne_up6, Nat.reduceSub, Nat.reduceEqDiff, Nat.reduceLT, Nat.reduceLeDiff]
              exact ⟨t.length - (k + 1 + 1), by omega, k + 1 + 1, out ++ [(92 : UInt8)], _, rfl, by omega, by rw [List.length_append, List.length_singleton]; omega, BytG.rowNew h (92 : UInt8), hm, rfl, rfl⟩
          have b3 : (d == 34) = false := by simpa using d1
          have b4 : (d == 92) = false := by simpa using d2
          rw [if_neg (by simp [d1, d2])] at hm
          simp only [g0, g1, g7, b1, b2, b3, b4, q5, q1', q2', q3', byte_34, byte_92, Int.toNat_natCast, Option.map_some, go_sem, ne_up1, ne_up2, ne_up3, ne_up4, ne_up5, ne_up6, Nat.reduceEqDiff, Nat.reduceLT]
          refine wc_must hr' h0 h1 (fun h => by cases h) (fun _ => ?_)
          simp only [go_sem]
          exact .inr ⟨rfl, hg.fr.fwd hS, ⟨rfl, by rw [← hm]⟩⟩
        · have q1' : ¬ (((k + 1 : Nat) : Int) < (t.length : Int)) := by omega
          rw [List.drop_eq_nil_of_le hk1, nameL_bs0] at hm
          simp only [g0, g1, g7, b1, b2, q5, q1', byte_92, go_sem, ne_up1, ne_up2, ne_up3, ne_up4, ne_up5, ne_up6, Nat.reduceEqDiff, Nat.reduceLT]
          refine wc_must hr' h0 h1 (fun h => by cases h) (fun _ => ?_)
          simp only [go_sem]
          exact .inr ⟨rfl, hg.fr.fwd hS, ⟨rfl, by rw [← hm]⟩⟩
      · have b2 : (c == 92) = false := by simpa using c2
        rw [nameL_pr c out _ c1 c2] at hm
        have k1 : decide ((c.toNat : Int) ≥ 32) = decide (32 ≤ c.toNat) := by apply decide_eq_decide.2; omega
        have k2 : decide ((c.toNat : Int) ≤ 126) = decide (c.toNat ≤ 126) := by apply decide_eq_decide.2; omega
        simp only [g0, b1, b2, byte_92, k1, go_sem, Nat.reduceEqDiff, Nat.reduceLT]
        by_cases p1 : 32 ≤ c.toNat
        case neg =>
          have hp : isPr c = false := by simp [isPr, p1]
          rw [hp] at hm
          simp only [p1, go_sem, ne_up1, ne_up2, ne_up3, ne_up4, ne_up5, ne_up6, Nat.reduceLT]
          refine wc_must hr' h0 h1 (fun h => by cases h) (fun _ => ?_)
          simp only [go_sem]
          exact .inr ⟨rfl, hg.fr.fwd hS, ⟨rfl, by rw [← hm]; rfl⟩⟩
        by_cases p2 : c.toNat ≤ 126
        case neg =>
          have hp : isPr c = false := by simp [isPr, p2]
          rw [hp] at hm
          simp only [k2, p1, p2, go_sem, ne_up1, ne_up2, ne_up3, ne_up4, ne_up5, ne_up6, Nat.reduceEqDiff, Nat.reduceLT]
          refine wc_must hr' h0 h1 (fun h => by cases h) (fun _ => ?_)
          simp only [go_sem]
          exact .inr ⟨rfl, hg.fr.fwd hS, ⟨rfl, by rw [← hm]; rfl⟩⟩
        have hp : isPr c = true := by simp [isPr, p1, p2]
        rw [hp, if_pos rfl] at hm
        simp only [k2, p1, p2, go_sem, ne_up1, ne_up2, ne_up3, ne_up4, ne_up5, ne_up6, Nat.reduceEqDiff, Nat.reduceLT]
        refine wc_must hr' h0 h1 (fun _ => ?_) (fun h => by cases h)
        cases hg with
        | nil h hl0 =>
          subst hl0
          simp only [t5b, t5s, t5z, size_one, Option.map_some, Nat.mul_one, Nat.zero_add, List.drop_zero, List.map_cons, List.map_nil, g0, g1, g7, g6, q5, go_sem, maxLenA, ne_up1, ne_dn1, ne_up2, ne_up5, ne_up6, Nat.reduceEqDiff, Nat.reduceLT, Nat.reduceLeDiff]
          exact ⟨t.length - (k + 1), by omega, k + 1, [c], _, rfl, by omega, by simp, BytG.nilNew h c, hm, rfl, rfl⟩
        | row h hpos =>
          rename_i b
          have hb := h.get1
          have hbn : (S'.next = b) = False := h.new_ne (List.mem_cons_self ..)
          have hbn2 : (S'.next + 1 = b) = False := eq_false (by have := h.lt (List.mem_cons_self ..); omega)
          have hlb : (byteCells out).length = out.length := byteCells_length out
          have zt : (byteCells out).take out.length = byteCells out := List.take_of_length_le (by omega)
          have z1 : out.length + 1 ≤ 140737488355328 := by omega
          have z2 : ¬ (out.length + 1 ≤ out.length) := by omega
          simp only [t5b, t5s, t5z, size_one, Option.map_some, Nat.mul_one, Nat.zero_add, Nat.zero_le, List.drop_zero, List.map_cons, List.map_nil, g0, g1, g7, g6, q5, hb, hbn, hlb, zt, z1, z2, Nat.le_refl, go_sem, maxLenA, ne_up1, ne_dn1, ne_up2, ne_up5, ne_up6, Nat.reduceSub, Nat.reduceEqDiff, Nat.reduceLT, Nat.reduceLeDiff]
          exact ⟨t.length - (k + 1), by omega, k + 1, out ++ [c], _, rfl, by omega, by rw [List.length_append, List.length_singleton]; omega, BytG.rowNew h c, hm, rfl, rfl⟩
    · have q1 : ¬ ((k : Int) < (t.length : Int)) := by omega
      rw [List.drop_eq_nil_of_le hge, nameL] at hm
      simp only [g0, g1, g7, q1, go_sem, ne_up1, ne_up2, Nat.reduceEqDiff, Nat.reduceLT]
      refine (wc24 hr' h0 h1).mono ?_
      rintro x T ⟨rfl, rfl⟩
      simp only [go_sem]
      exact .inr ⟨rfl, hg.fr.fwd hS, ⟨rfl, by rw [← hm]⟩⟩
  · exact ⟨1, [], _, rfl, hpos, by simp, .nil (.start hS.1) rfl, rfl, by simp only [go_sem, ne_up4, ne_up5, ne_up6, Nat.reduceEqDiff], by simp only [go_sem, ne_dn1, ne_up3, ne_up4, ne_up5, ne_up6, Nat.reduceEqDiff], by simp only [go_sem, ne_up1], by simp only [go_sem, Int.cast_ofNat_Int]⟩
end
end Go.Proofs.YtgjnimemofmncaaGreatDoor

namespace Go.Proofs.YtgjnimemofmncaaGreatDoor
open Go.Abs Go.Tx
set_option maxHeartbeats 1000000
set_option maxRecDepth 20000
theorem splitK_length (sep : Bs) (save : Nat) : ∀ (k : Nat) (s : Bs), (Lib.splitK sep save k s).length ≤ k + 1
  | 0, s => by simp [Lib.splitK]
  | k + 1, s => by
    rw [Lib.splitK]
    split
    · simp
    · have := splitK_length sep save k (s.drop ((Lib.index s sep).toNat + sep.length))
      simp only [List.length_cons]; omega
theorem split_length (s sep : Bs) : (Lib.split s sep).length ≤ s.length + 2 := by
  have h1 := splitK_length sep 0 (Lib.count s sep) s
  have h2 := Lib.count_le s sep
  unfold Lib.split
  omega
theorem nameL_len : ∀ (k : Nat) (s out : Bs) (p : Bs × Bs), s.length ≤ k → nameL s out = some p → p.2.length ≤ s.length
  | _, [], out, p, _, h => by rw [nameL] at h; cases h
  | 0, c :: r, out, p, hk, h => by simp at hk
  | k + 1, c :: r, out, p, hk, h => by
    simp only [List.length_cons] at hk ⊢
    by_cases h1 : c = 34
    · subst h1
      rw [nameL_quote] at h
      split at h
      · cases h; simp
      · cases h
    by_cases h2 : c = 92
    · subst h2
      cases r with
      | nil => rw [nameL_bs0] at h; cases h
      | cons d q =>
        rw [nameL_bs] at h
        simp only [List.length_cons] at hk ⊢
        split at h
        · have := nameL_len k q _ p (by omega) h
          omega
        · cases h
    rw [nameL_pr c out r h1 h2] at h
    split at h
    · have := nameL_len k r _ p (by omega) h
      omega
    · cases h
theorem nameP_len {t : Bs} {p : Bs × Bs} (h : nameP t = some p) : p.2.length ≤ t.length := by
  cases t with
  | nil => cases h
  | cons c r =>
    simp only [nameP] at h
    split at h
    · have := nameL_len r.length r [] p (Nat.le_refl _) h
      simp only [List.length_cons]; omega
    · cases h
theorem dialO_at (w : Bs) (k : Nat) (h : dname k = w) (hk1 : 1 ≤ k) (hk6 : k ≤ 6) (hp : ∀ j : Nat, 1 ≤ j → j < k → dname j ≠ w) : dialO w = some (k : Int) := by
  have h1 := fun q => hp 1 (by omega) q
  have h2 := fun q => hp 2 (by omega) q
  have h3 := fun q => hp 3 (by omega) q
  have h4 := fun q => hp 4 (by omega) q
  have h5 := fun q => hp 5 (by omega) q
  have d1 : dname (1 : Nat) = wFour := rfl
  have d2 : dname (2 : Nat) = wScream := rfl
  have d3 : dname (3 : Nat) = wFast := rfl
  have d4 : dname (4 : Nat) = wImpulse := rfl
  have d5 : dname (5 : Nat) = wCompose := rfl
  have d6 : dname (6 : Nat) = wChip := rfl
  rw [d1] at h1; rw [d2] at h2; rw [d3] at h3; rw [d4] at h4; rw [d5] at h5
  unfold dialO
  rcases (by omega : k = 1 ∨ k = 2 ∨ k = 3 ∨ k = 4 ∨ k = 5 ∨ k = 6) with rfl | rfl | rfl | rfl | rfl | rfl
  · rw [d1] at h; rw [if_pos h]; rfl
  · rw [d2] at h; rw [if_neg (h1 (by omega)), if_pos h]; rfl
  · rw [d3] at h; rw [if_neg (h1 (by omega)), if_neg (h2 (by omega)), if_pos h]; rfl
  · rw [d4] at h; rw [if_neg (h1 (by omega)), if_neg (h2 (by omega)), if_neg (h3 (by omega)), if_pos h]; rfl
  · rw [d5] at h; rw [if_neg (h1 (by omega)), if_neg (h2 (by omega)), if_neg (h3 (by omega)), if_neg (h4 (by omega)), if_pos h]; rfl
  · rw [d6] at h; rw [if_neg (h1 (by omega)), if_neg (h2 (by omega)), if_neg (h3 (by omega)), if_neg (h4 (by omega)), if_neg (h5 (by omega)), if_pos h]; rfl
theorem dialO_none (w : Bs) (hp : ∀ j : Nat, 1 ≤ j → j < 7 → dname j ≠ w) : dialO w = none := by
  have h1 : wFour ≠ w := hp 1 (by omega) (by omega)
  have h2 : wScream ≠ w := hp 2 (by omega) (by omega)
  have h3 : wFast ≠ w := hp 3 (by omega) (by omega)
  have h4 : wImpulse ≠ w := hp 4 (by omega) (by omega)
  have h5 : wCompose ≠ w := hp 5 (by omega) (by omega)
  have h6 : wChip ≠ w := hp 6 (by omega) (by omega)
  simp [dialO, h1, h2, h3, h4, h5, h6]
section
variable {S : St} {rb : Nat} {lv : FV} {n : Int} {song : List AV} (hr : S.get rb = some (.blk (rdC lv n song) 0 74)) (h0 : 1 ≤ n) (h1 : n ≤ 4000000000)
include hr h0 h1
theorem wc47 (w : Bs) : WC Tryz.prog 47 [.ref rb 0, str w] (OptIs i64 n S (dialO w)) S := by
  refine wc_fwd ?_
  refine wc_fn (fn := Tryz.f47) (N := 24) (rs := [.tmp 4]) (by rfl) (by kernel_rfl) (by rfl) (by rfl) (by rfl) (by rfl) fun hS => ?_
  have hlt := hS.1 rb _ hr
  simp only [go_sem, Nat.reduceAdd, Nat.reduceLT]
  refine wloop_meas (fun m' e S' => ∃ k : Nat, m' = 7 - k ∧ 1 ≤ k ∧ k ≤ 7 ∧ FR S [] S' ∧ (∀ j : Nat, 1 ≤ j → j < k → dname j ≠ w) ∧
    e.get 0 = .ref rb 0 ∧ e.get 1 = str w ∧ e.get 5 = i64 k) ?_ 6 _ _ ?_
  · rintro m' e S' ⟨k, rfl, hk1, hk, hF, hp, g0, g1, g5⟩
    rcases Nat.lt_or_ge k 7 with hlt' | hge
    · have q1 : ((k : Int) ≤ 6) = True := by simp; omega
      have q5 := step_wrap k (by omega)
      obtain ⟨a, b, hq⟩ := qk_ex { SongV.zero with dialect := k }
      simp only at hq
      simp only [g5, q1, go_sem, ne_up3, ne_up4, Nat.reduceLT]
      refine wc_is (wc28' k _) ?_
      rw [hq]
      by_cases he : dname k = w
      · have hb : (dname (k : Int) == w) = true := by simpa using he
        simp only [g1, g5, hb, go_sem, put_new, ne_up1, ne_up2, ne_up3, ne_up4, ne_up5, ne_up6, Nat.reduceAdd, Nat.reduceEqDiff, Nat.reduceLT, Nat.reduceLeDiff]
        refine ends_fwd ((hF.tmp _).fwd hS) rfl (.inl ⟨rfl, ?_⟩)
        rw [dialO_at w k he hk1 (by omega) hp]
      · have hb : (dname (k : Int) == w) = false := by simpa using he
        simp only [g0, g1, g5, hb, q5, go_sem, put_new, ne_up1, ne_up2, ne_up3, ne_up4, ne_up5, ne_up6, Nat.reduceAdd, Nat.reduceEqDiff, Nat.reduceLT, Nat.reduceLeDiff]
        refine ⟨7 - (k + 1), by omega, k + 1, rfl, by omega, by omega, hF.tmp _, fun j hj1 hj2 => ?_, rfl⟩
        rcases Nat.lt_or_ge j k with h | h
        · exact hp j hj1 h
        · have : j = k := by omega
          subst this; exact he
    · have q1 : ((k : Int) ≤ 6) = False := by simp; omega
      have hk7 : k = 7 := by omega
      subst hk7
      simp only [g0, g5, go_sem, Int.cast_ofNat_Int, Nat.reduceSub, Nat.reduceEqDiff, Nat.reduceLT, Int.reduceLE]
      refine (wc24 (by rw [hF.old rb hlt]; exact hr) h0 h1).mono ?_
      rintro x T ⟨rfl, rfl⟩
      simp only [go_sem]
      exact .inr ⟨rfl, hF.fwd hS, ⟨rfl, by rw [dialO_none w hp]⟩⟩
  · exact ⟨1, rfl, by omega, by omega, .start hS.1, fun j h1 h2 => by omega, by simp only [go_sem, ne_up4, ne_up5], by simp only [go_sem, ne_dn1, ne_up3, ne_up4], by simp only [go_sem, Int.cast_ofNat_Int]⟩
theorem wc80 {m : Int} (hk : S.known = KN m) (line word : Bs) (k : Nat) (hl : line.length ≤ 1000000000) (hw : word.length ≤ 100) (hk1 : k ≤ 100) :
    WC Tryz.prog 80 [.ref rb 0, str line, str word, i64 k] (OptIs (fun p : Bs × List Int => .tup [str p.1, .c (intsV p.2)]) n S (namedO line word k)) S := by
  have hwl : (word ++ [32]).length ≤ 1000 := by simp; omega
  have hw2 : word.length ≤ 140737488355327 := by omega
  refine wc_fn (fn := Tryz.f80) (N := 48) (rs := [.tmp 8, .tmp 9]) (by rfl) (by kernel_rfl) (by rfl) (by rfl) (by rfl) (by rfl) fun hS => ?_
  simp only [hw2, go_sem, maxLenA, ne_up1, ne_dn1, ne_up2, ne_dn2, ne_up6, Nat.reduceAdd, Nat.reduceEqDiff, Nat.reduceLT, Nat.reduceLeDiff]
  refine wc_is (wc45 _ _ _) ?_
  cases hp : Lib.hasPrefix line (word ++ [32]) with
  | false =>
    simp only [go_sem, ne_up1, ne_up2, ne_up3, ne_up4, Nat.reduceLT]
    refine wc_must hr h0 h1 (fun h => by cases h) (fun _ => ?_)
    simp only [go_sem]
    exact ⟨rfl, by simp only [namedO, hp]; rfl⟩
  | true =>
    have hpl : (word ++ [32]).length ≤ line.length := by
      have := (List.isPrefixOf_iff_prefix (l₁ := word ++ [32]) (l₂ := line)).1 hp
      exact this.length_le
    have hpl' : word.length + 1 ≤ line.length := by simpa using hpl
    have wr : IntKind.i64.wrap ((word.length : Int) + 1) = ((word.length + 1 : Nat) : Int) := step_wrap _ (by omega)
    have z0 : (0 : Int) ≤ ((word.length + 1 : Nat) : Int) := by omega
    have ez : (line.drop (word.length + 1)).take (line.length - (word.length + 1)) = line.drop (word.length + 1) := List.take_of_length_le (by rw [List.length_drop]; omega)
    have hN : namedO line word k = (match nameP (line.drop (word.length + 1)) with
     | some (nm, rest) =>
       (match Lib.split rest [32] with
        | w :: r => if w = [] ∧ r.length = k then (match nums r with | some l => some (nm, l) | none => none) else none
        | [] => none)
     | none => none) := by simp only [namedO, hp, if_true]; rfl
    simp only [go_sem, ne_up1, ne_up2, ne_up3, ne_up4, Nat.reduceLT]
    refine wc_must hr h0 h1 (fun _ => ?_) (fun h => by cases h)
    simp only [wr, z0, hpl', Int.toNat_natCast, Nat.le_refl, List.take_length, go_sem, ne_up1, ne_dn1, ne_up2, ne_dn2, ne_up3, ne_up4, ne_up5, ne_up6, Nat.reduceEqDiff, Nat.reduceLT]
    refine wc_opt (wc46 hr h0 h1 (line.drop (word.length + 1)) (by rw [List.length_drop]; omega)) (fun p hnp => ?_) (fun hnp => ?_)
    · obtain ⟨nm, rest⟩ := p
      have hrl := nameP_len hnp
      rw [List.length_drop] at hrl
      rw [hnp] at hN
      simp only at hN hrl
      simp only [go_sem, ne_up1, Nat.reduceEqDiff, Nat.reduceLT]
      refine wc_is (wc39 hk rest [32] (by omega) (by decide)) ?_
      cases hs : Lib.split rest [32] with
      | nil => exact absurd hs (split_ne _ _)
      | cons w r =>
        rw [hs] at hN
        simp only at hN
        have hsz : allSize 1 ((w :: r).map FV.str) = true := allSize_strs _
        have hszr : allSize 1 (r.map FV.str) = true := allSize_strs _
        have hrle : r.length ≤ 1000000000 := by
          have h5 : (Lib.split rest [32]).length ≤ rest.length + 2 := split_length _ _
          rw [hs, List.length_cons] at h5; omega
        simp only [List.map_cons] at hsz
        have kw : IntKind.i64.wrap ((k : Int) + 1) = ((k + 1 : Nat) : Int) := step_wrap _ (by omega)
        by_cases e1 : w = []
        · subst e1
          have q1 : (([] : Bs) == []) = true := rfl
          by_cases e2 : r.length = k
          · have q2 : (((r.length + 1 : Nat) : Int) == ((k + 1 : Nat) : Int)) = true := by rw [beq_iff_eq]; omega
            rw [if_pos ⟨rfl, e2⟩] at hN
            simp only [q1, q2, kw, hsz, List.map_cons, List.length_cons, List.length_map, List.getElem?_cons_zero, Option.map_some, Nat.zero_lt_succ, go_sem, ne_up1, ne_dn1, ne_up2, ne_dn2, ne_up3, ne_dn3, ne_up4, ne_up5, ne_up6, Nat.reduceEqDiff, Nat.reduceLT, Int.reduceLT, Int.reduceToNat]
            refine wc_must hr h0 h1 (fun _ => ?_) (fun h => by cases h)
            simp only [hsz, List.length_cons, List.length_map, Nat.le_add_left, Nat.le_refl, go_sem, ne_up1, ne_up2, ne_up3, Nat.reduceEqDiff, Nat.reduceLT, Int.reduceLE, Int.reduceToNat]
            have ht : List.take r.length (r.map FV.str) = r.map FV.str := List.take_of_length_le (by rw [List.length_map]; exact Nat.le_refl _)
            first | rw [ht] | skip
            refine wc_opt (wc48 hr h0 h1 r hrle) (fun l hl' => ?_) (fun hl' => ?_)
            · rw [hl'] at hN
              simp only [go_sem, ne_up1, ne_up2, ne_up3, ne_up4, Nat.reduceEqDiff, Nat.reduceLT]
              exact ends_now ⟨rfl, by rw [hN]⟩
            · rw [hl'] at hN
              simp only [go_sem]
              exact ⟨rfl, by rw [hN]⟩
          · have q2 : (((r.length + 1 : Nat) : Int) == ((k + 1 : Nat) : Int)) = false := by rw [beq_eq_false_iff_ne]; omega
            rw [if_neg (fun h => e2 h.2)] at hN
            simp only [q1, q2, kw, hsz, List.map_cons, List.length_cons, List.length_map, List.getElem?_cons_zero, Option.map_some, Nat.zero_lt_succ, go_sem, ne_up1, ne_dn1, ne_up2, ne_dn2, ne_up3, ne_dn3, ne_up4, ne_up5, ne_up6, Nat.reduceEqDiff, Nat.reduceLT, Int.reduceLT, Int.reduceToNat]
            refine wc_must hr h0 h1 (fun h => by cases h) (fun _ => ?_)
            simp only [go_sem]
            exact ⟨rfl, by rw [hN]⟩
        · have q1 : (w == []) = false := by simpa using e1
          rw [if_neg (fun h => e1 h.1)] at hN
          simp only [q1, hsz, List.map_cons, List.length_cons, List.length_map, List.getElem?_cons_zero, Option.map_some, Nat.zero_lt_succ, go_sem, ne_up1, ne_up2, ne_up3, ne_up4, ne_up5, ne_up6, Nat.reduceEqDiff, Nat.reduceLT, Int.reduceLT, Int.reduceToNat]
          refine wc_must hr h0 h1 (fun h => by cases h) (fun _ => ?_)
          simp only [go_sem]
          exact ⟨rfl, by rw [hN]⟩
    · rw [hnp] at hN
      simp only [go_sem]
      exact ⟨rfl, by rw [hN]⟩
end
end Go.Proofs.YtgjnimemofmncaaGreatDoor

namespace Go.Proofs.YtgjnimemofmncaaGreatDoor
open Go.Abs Go.Tx
set_option maxHeartbeats 2000000
set_option maxRecDepth 20000
def RdIs {α : Type} (enc : α → AV) (rb : Nat) (ls : List Bs) (song : List AV) (S : St) (r : Res α) (x : CX) (T : St) : Prop :=
  match r with
  | .ok a j => x = .ret (enc a) ∧ T = S.put rb (rdO ls j song) ∧ 1 ≤ j ∧ j ≤ ls.length
  | .bad k => x = .panic (stopV 2 k) ∧ ∃ j, T = S.put rb (rdO ls j song)
  | .short => x = .panic (stopV 12 ls.length) ∧ ∃ j, T = S.put rb (rdO ls j song)
variable {S S0 S1 T : St} {rb i j : Nat} {ls : List Bs} {song : List AV} {L : List (Nat × Ob)} {m : Int}
theorem low_rd (hS : Shut S) (hr : S.get rb = some (rdO ls i song)) (j : Nat) : (rdO ls j song).Low S.next := by
  have h := hS.2.1 rb _ (hS.1 rb _ hr) hr
  intro x hx
  rcases List.mem_cons.1 hx with rfl | hx
  · exact .c
  rcases List.mem_cons.1 hx with rfl | hx
  · exact .c
  · exact h x (List.mem_cons_of_mem _ (List.mem_cons_of_mem _ hx))
theorem shut_rd (hS : Shut S) (hr : S.get rb = some (rdO ls i song)) (j : Nat) : Shut (S.put rb (rdO ls j song)) := by
  refine ⟨wf_put hS.1 (hS.1 rb _ hr), ?_⟩
  exact popOk_put (.inr (low_rd hS hr j)) hS.2
theorem wc44r (hr : S.get rb = some (rdO ls i song)) (hi : i ≤ ls.length) (hls : ls.length ≤ 1000000000) : WC Tryz.prog 44 [.ref rb 0] (RdIs str rb ls song S (lineR ls i)) S := by
  refine (wc44 hr hi hls).mono ?_
  rintro x T ⟨rfl, rfl⟩
  have h1 := moreL_le (ls.drop i) i
  have h2 := moreL_some (ls.drop i) i
  have h3 : lineR ls i = match moreL (ls.drop i) i with | (some l, j) => .ok l j | (none, _) => .short := rfl
  rw [h3]
  cases hm : moreL (ls.drop i) i with
  | mk a b =>
    rw [hm, List.length_drop] at h1
    rw [hm] at h2
    cases a with
    | none => exact ⟨rfl, _, rfl⟩
    | some l =>
      have := (h2 l rfl).1
      simp only at this h1
      exact ⟨rfl, rfl, by omega, by omega⟩
theorem lineR_mem {l : Bs} (h : lineR ls i = .ok l j) : l ∈ ls := by
  have h2 := moreL_some (ls.drop i) i
  have h3 : lineR ls i = match moreL (ls.drop i) i with | (some l, j) => .ok l j | (none, _) => .short := rfl
  rw [h3] at h
  cases hm : moreL (ls.drop i) i with
  | mk a b =>
    rw [hm] at h h2
    cases a with
    | none => cases h
    | some x =>
      cases h
      exact List.mem_of_mem_drop (h2 _ rfl).2
theorem wc_rd {α : Type} {enc : α → AV} {r : Res α} {f : FuncId} {args : List AV} {K : CX → St → Prop} (h : WC Tryz.prog f args (RdIs enc rb ls song T r) T)
    (k1 : ∀ a j, r = .ok a j → 1 ≤ j → j ≤ ls.length → K (.ret (enc a)) (T.put rb (rdO ls j song))) (k2 : ∀ k j, r = .bad k → K (.panic (stopV 2 k)) (T.put rb (rdO ls j song)))
    (k3 : ∀ j, r = .short → K (.panic (stopV 12 ls.length)) (T.put rb (rdO ls j song))) : WC Tryz.prog f args K T := by
  refine h.mono fun x T' hx => ?_
  cases r with
  | ok a j =>
    obtain ⟨rfl, rfl, h1, h2⟩ := hx
    exact k1 a j rfl h1 h2
  | bad k =>
    obtain ⟨rfl, j, rfl⟩ := hx
    exact k2 k j rfl
  | short =>
    obtain ⟨rfl, j, rfl⟩ := hx
    exact k3 j rfl
theorem bnd_line {α : Type} (f : Bs → Rd α) : bnd lineR f ls i = (match lineR ls i with | .ok l j => f l ls j | .bad j => .bad j | .short => .short) := by unfold bnd; cases lineR ls i <;> rfl
theorem bnd_lift {α β : Type} (o : Option α) (f : α → Rd β) : bnd (liftR o) f ls i = (match o with | some a => f a ls i | none => .bad ((i : Int) - 1)) := by cases o <;> rfl
theorem bnd_must {β : Type} (b : Bool) (f : Unit → Rd β) : bnd (mustR b) f ls i = (if b = true then f () ls i else .bad ((i : Int) - 1)) := by cases b <;> rfl
theorem bnd_assoc {α β γ : Type} (p : Rd α) (f : α → Rd β) (h : β → Rd γ) : bnd (bnd p f) h ls i = bnd p (fun a => bnd (f a) h) ls i := by
  unfold bnd
  cases p ls i <;> rfl
theorem wordsO_length {l w : Bs} {n : Int} {v : List Bs} (h : wordsO l w n = some v) : v.length ≤ l.length + 2 := by
  unfold wordsO at h
  have h2 := split_length l [32]
  cases hs : Lib.split l [32] with
  | nil => rw [hs] at h; cases h
  | cons x r =>
    rw [hs] at h h2
    simp only at h
    split at h
    · cases h
      simp only [List.length_cons] at h2; omega
    · cases h
theorem nums_len : ∀ {ws : List Bs} {l : List Int}, nums ws = some l → l.length = ws.length
  | [], l, h => by cases h; rfl
  | w :: r, l, h => by
    rw [nums] at h
    cases hn : num w with
    | none => rw [hn] at h; cases h
    | some n =>
      rw [hn] at h
      cases hr : nums r with
      | none => rw [hr] at h; cases h
      | some q =>
        rw [hr] at h
        cases h
        simp [nums_len hr]
theorem nums_7 {a b c d e f g : Bs} {r : List Bs} {n : List Int} (h : nums ((a :: b :: c :: d :: e :: f :: g :: r).take 7) = some n) : ∃ n0 n1 n2 n3 n4 n5 n6, n = [n0, n1, n2, n3, n4, n5, n6] := by
  have hl := nums_len h
  simp only [List.take_succ_cons, List.take_zero, List.length_cons, List.length_nil] at hl
  match n, hl with
  | [n0, n1, n2, n3, n4, n5, n6], _ => exact ⟨_, _, _, _, _, _, _, rfl⟩
theorem allO_drop {α : Type} (f : Bs → Option α) (ws : List Bs) (i : Nat) (h : i < ws.length) : allO f (ws.drop i) = (match f ws[i] with | some v => (match allO f (ws.drop (i + 1)) with | some l => some (v :: l) | none => none) | none => none) := by
  rw [List.drop_eq_getElem_cons h]; rfl
theorem splitK_sum (sep : Bs) (save : Nat) : ∀ (k : Nat) (s : Bs), ∀ x ∈ Lib.splitK sep save k s, x.length ≤ s.length
  | 0, s, x, h => by simp [Lib.splitK] at h; subst h; exact Nat.le_refl _
  | k + 1, s, x, h => by
    rw [Lib.splitK] at h
    split at h
    · simp at h; subst h; exact Nat.le_refl _
    · rcases List.mem_cons.1 h with rfl | h
      · rw [List.length_take]; omega
      · have := splitK_sum sep save k _ x h
        rw [List.length_drop] at this; omega
theorem wordsO_sum {l w : Bs} {n : Int} {v : List Bs} (h : wordsO l w n = some v) : ∀ x ∈ v, x.length ≤ l.length := by
  intro x hx
  unfold wordsO at h
  have h2 := splitK_sum [32] 0 (Lib.count l [32]) l
  cases hs : Lib.split l [32] with
  | nil => rw [hs] at h; cases h
  | cons y r =>
    rw [hs] at h
    simp only at h
    split at h
    · cases h
      exact h2 x (by show x ∈ Lib.split l [32]; rw [hs]; exact List.mem_cons_of_mem _ hx)
    · cases h
theorem t138b : Tryz.t138.bytes = 16 := rfl
theorem t138s : Tryz.t138.size = 2 := rfl
theorem t138z : Tryz.t138.zero = some (.agg #[.int .i64 0, .int .i64 0]) := rfl
theorem size_pair (x y : Value) : #[x, y].size = 2 := rfl
abbrev ptC (p : Int × Int) : List FV := [.int .i64 p.1, .int .i64 p.2]
abbrev envCA (v : AV) (e : EnvV) : List AV := [.c (.bool e.on), v, .c (.bool e.sus), i64 e.susStart, i64 e.susEnd, .c (.bool e.lp), i64 e.lpStart, i64 e.lpEnd]
theorem wc82 (hr : S.get rb = some (rdO ls i song)) (hi : i ≤ ls.length) (hls : ls.length ≤ 1000000000) (hll : ∀ l ∈ ls, l.length ≤ 1000000) (hk : S.known = KN m) (w : Bs) :
    WC Tryz.prog 82 [.ref rb 0, str w] (RdIs (fun e => .c (envV e)) rb ls song S (envR w ls i)) S := by
  refine wc_fwd2 ?_
  refine wc_fn (fn := Tryz.f82) (N := 77) (rs := [.cell 4 52]) (by rfl) (by kernel_rfl) (by rfl) (by rfl) (by rfl) (by rfl) fun hS => ?_
  have hlt := hS.1 rb _ hr
  have hne : (S.next = rb) = False := eq_false (by omega)
  have hR : envR w ls i = (match lineR ls i with | .ok l j => (bnd (liftR (wordsO l w (-1))) fun l => bnd (mustR (decide (7 ≤ l.length))) fun _ => bnd (liftR (nums (l.take 7))) fun n =>
      bnd (liftR (truthO (l.getD 0 []))) fun on => bnd (liftR (truthO (l.getD 1 []))) fun sus => bnd (liftR (truthO (l.getD 4 []))) fun lp =>
      bnd (liftR (allO pairO (l.drop 7))) fun ps =>
      pureR { on := on, points := ps, sus := sus, susStart := n.getD 2 0, susEnd := n.getD 3 0, lp := lp, lpStart := n.getD 5 0, lpEnd := n.getD 6 0 } : Rd EnvV) ls j | .bad j => .bad j | .short => .short) := by
    unfold envR wordR
    rw [bnd_assoc, bnd_line]
  simp only [go_sem, ne_up4, Nat.reduceAdd, Nat.reduceEqDiff, Nat.reduceLT, Int.reduceNeg]
  refine wc_rd (wc44r (by rw [St.get_new, if_neg (by omega)]; exact hr) hi hls) (fun l j hl hj1 hj2 => ?_) (fun k j hl => ?_) (fun j hl => ?_)
  · rw [hl] at hR
    simp only at hR
    have hS1 := shut_rd hS hr j
    have hc := (FR.start hS.1).new (.blk [.c (.bool false), .c .nils, .c (.bool false), i64 0, i64 0, .c (.bool false), i64 0, i64 0] 0 52)
    have hc := hc.put_old hlt (rdO ls j song)
    have hll' := hll l (lineR_mem hl)
    have hrd : ∀ {L : List (Nat × Ob)} {T : St}, FR (S.put rb (rdO ls j song)) L T → T.get rb = some (rdO ls j song) := fun h => by
      rw [h.old rb hlt, St.get_put]; exact if_pos rfl
    have hkn : ∀ {L : List (Nat × Ob)} {T : St}, FR (S.put rb (rdO ls j song)) L T → T.known = KN m := fun h => h.known.trans hk
    have bad : ∀ {L : List (Nat × Ob)} {T : St}, FR (S.put rb (rdO ls j song)) L T → envR w ls i = .bad ((j : Int) - 1) →
        RdIs (fun e => .c (envV e)) rb ls song S (envR w ls i) (.panic (stopV 2 ((j : Int) - 1))) T ∨ ∃ S1, S1.next = S.next ∧ (CX.panic (stopV 2 ((j : Int) - 1))).val.under S.next 4 = true ∧ Fwd S1 T ∧ RdIs (fun e => .c (envV e)) rb ls song S (envR w ls i) (.panic (stopV 2 ((j : Int) - 1))) S1 := fun h e => .inr ⟨S.put rb (rdO ls j song), rfl, rfl, h.fwd hS1, by rw [e]; exact ⟨rfl, j, rfl⟩⟩
    have h0 : (1 : Int) ≤ (j : Int) := by omega
    have h1 : (j : Int) ≤ 4000000000 := by omega
    generalize (S.new (.blk [.c (.bool false), .c .nils, .c (.bool false), i64 0, i64 0, .c (.bool false), i64 0, i64 0] 0 52)).put rb (rdO ls j song) = T at hc ⊢
    simp only [go_sem, ne_up1, ne_dn1, ne_up2, ne_up3, Nat.reduceEqDiff, Nat.reduceLT, Int.reduceNeg]
    rw [bnd_lift] at hR
    refine wc_opt (wc43 (hrd hc) h0 h1 (hkn hc) l w (-1) (by omega) (by omega) (by omega)) (fun v hv => ?_) (fun hv => ?_)
    · rw [hv] at hR
      simp only [bnd_must] at hR
      by_cases h7 : 7 ≤ v.length
      · have h7' : ((v.length : Int) ≥ 7) = True := by simp; omega
        rw [decide_eq_true h7, if_pos rfl, bnd_lift] at hR
        have hsz : allSize 1 (v.map FV.str) = true := allSize_strs _
        have hvl : v.length ≤ 1000000000 := by
          have := wordsO_length hv
          omega
        have htk : List.take 7 (v.map FV.str) = (v.take 7).map FV.str := by rw [List.map_take]
        simp only [h7', List.length_map, go_sem, ne_up1, ne_up2, ne_up3, ne_up4, ne_up5, Nat.reduceEqDiff, Nat.reduceLT, Int.reduceNeg]
        refine wc_must (hrd hc) h0 h1 (fun _ => ?_) (fun h => by cases h)
        simp only [hsz, h7, htk, List.length_map, go_sem, ne_up1, ne_up2, ne_up4, ne_up5, Nat.reduceEqDiff, Nat.reduceLT, Nat.reduceLeDiff, Int.reduceLE, Int.reduceToNat]
        refine wc_opt (wc48 (hrd hc) h0 h1 (v.take 7) (by rw [List.length_take]; omega)) (fun n hn => ?_) (fun hn => ?_)
        · rw [hn] at hR
          simp only at hR
          obtain ⟨w0, w1, w2, w3, w4, w5, w6, rest, rfl⟩ : ∃ w0 w1 w2 w3 w4 w5 w6 rest, v = w0 :: w1 :: w2 :: w3 :: w4 :: w5 :: w6 :: rest := by
            match v, h7 with
            | w0 :: w1 :: w2 :: w3 :: w4 :: w5 :: w6 :: rest, _ => exact ⟨_, _, _, _, _, _, _, _, rfl⟩
          obtain ⟨n0, n1, n2, n3, n4, n5, n6, rfl⟩ : ∃ n0 n1 n2 n3 n4 n5 n6, n = [n0, n1, n2, n3, n4, n5, n6] := nums_7 hn
          simp only [List.getD_cons_zero, List.getD_cons_succ, List.drop_succ_cons, List.drop_zero, bnd_lift] at hR
          have hsz2 := hsz
          simp only [List.map_cons] at hsz2
          have hL0 : 0 < rest.length + 1 + 1 + 1 + 1 + 1 + 1 + 1 := by omega
          have hL1 : 1 < rest.length + 1 + 1 + 1 + 1 + 1 + 1 + 1 := by omega
          have hL4 : 4 < rest.length + 1 + 1 + 1 + 1 + 1 + 1 + 1 := by omega
          have q0 : 0 < 7 := by omega
          have hszn : allSize 1 [FV.int .i64 n0, FV.int .i64 n1, FV.int .i64 n2, FV.int .i64 n3, FV.int .i64 n4, FV.int .i64 n5, FV.int .i64 n6] = true := rfl
          have q1 : 1 < 7 := by omega
          have q4 : 1 < 7 := by omega
          have hcn := hc.new (.blk [.c (.bool false), .c .nils, .c (.bool false), i64 0, i64 0, .c (.bool false), i64 0, i64 0] 0 52)
          simp only [go_sem, Nat.reduceLT]
          refine wdraw_cut (fun e' T' => ∃ on sus lp, truthO w0 = some on ∧ truthO w1 = some sus ∧ truthO w4 = some lp ∧ ∃ B, FR (S.put rb (rdO ls j song)) [(B, .blk (envCA (.c .nils) ⟨on, [], sus, n2, n3, lp, n5, n6⟩) 0 52), (S.next, .blk [.c (.bool false), .c .nils, .c (.bool false), i64 0, i64 0, .c (.bool false), i64 0, i64 0] 0 52)] T' ∧
            e'.get 0 = .ref rb 0 ∧ e'.get 5 = wordsV (w0 :: w1 :: w2 :: w3 :: w4 :: w5 :: w6 :: rest) ∧ e'.get 7 = .ref B 0 ∧ e'.get 4 = .ref S.next 0) ?_ ?_
          · refine wdraw_plan ch82x4 pp82x4 (by kernel_rfl) (by kernel_rfl) (by kernel_rfl) ?_
            simp only [hszn, hsz2, hL0, hL1, hL4, List.map_cons, List.map_nil, List.length_cons, List.length_nil, List.length_map, List.getElem?_cons_zero, List.getElem?_cons_succ, Option.map_some, go_sem, ne_up1, ne_dn1, ne_up2, ne_dn2, ne_up3, ne_dn3, ne_up4, ne_up5, ne_up6, ne_dn6, Option.some.injEq, Nat.reduceAdd, Nat.reduceEqDiff, Nat.reduceLT, Int.reduceLT, Int.reduceToNat]
            refine ⟨?_, ?_⟩
            · first | skip | simp only [hszn, hsz2, hL0, hL1, hL4, q0, q1, q4, List.map_cons, List.map_nil, List.length_cons, List.length_nil, List.length_map, List.getElem?_cons_zero, List.getElem?_cons_succ, Option.map_some, go_sem, maxLenA, put_put, put_new, ne_up1, ne_dn1, ne_up2, ne_dn2, ne_up3, ne_dn3, ne_up4, ne_dn4, ne_up5, ne_dn5, ne_up6, ne_dn6, bytesOf, aMapUpdate, findA, keyEq, keyFits, aLookup, aAssert, mkIface, mkClo, wrap_i64, wrap_i32, wrap_u8, Int.cast_ofNat_Int, Option.some.injEq, Nat.reduceAdd, Nat.reduceSub, Nat.reduceMul, Nat.reduceEqDiff, Nat.reduceLT, Nat.reduceLeDiff, Nat.reduceMod, Nat.reduceDiv, Int.reduceLT, Int.reduceLE, Int.reduceToNat, Int.reduceNeg, Int.reduceEq, Int.reduceBEq, Int.reduceBNe, Nat.reduceBEq, Int.reduceMul, Int.reduceAdd, Int.reduceSub, Int.reduceDiv, Int.reduceTDiv, Int.reduceTMod, Int.reduceMod]
              refine wc_opt (wc49 (hrd hcn) h0 h1 w0) (fun on hon => ?_) (fun hon => ?_)
              · simp only [List.map_cons, List.map_nil, List.getElem?_cons_zero, List.getElem?_cons_succ, Option.map_some, go_sem, ne_up1, ne_dn1, ne_up2, ne_up3, ne_dn3, ne_up4, ne_dn4, ne_up5, ne_up6, Option.some.injEq, Nat.reduceEqDiff, Nat.reduceLT]
                refine wc_opt (wc49 (hrd hcn) h0 h1 w1) (fun sus hsus => ?_) (fun hsus => ?_)
                · simp only [List.map_cons, List.map_nil, List.getElem?_cons_zero, List.getElem?_cons_succ, Option.map_some, go_sem, ne_up1, ne_up2, ne_dn2, ne_up3, ne_dn3, ne_up4, ne_up5, ne_dn5, ne_up6, ne_dn6, Option.some.injEq, Nat.reduceEqDiff, Nat.reduceLT]
                  refine wc_opt (wc49 (hrd hcn) h0 h1 w4) (fun lp hlp => ?_) (fun hlp => ?_)
                  · simp only [List.map_cons, List.map_nil, List.length_cons, List.length_nil, List.getElem?_cons_zero, List.getElem?_cons_succ, Option.map_some, go_sem, put_new, ne_up1, ne_up2, ne_dn2, ne_up3, ne_dn3, ne_up4, ne_dn4, ne_up5, ne_dn5, ne_up6, ne_dn6, Option.some.injEq, Nat.reduceAdd, Nat.reduceEqDiff, Nat.reduceLT, Nat.reduceLeDiff]
                    exact ⟨on, sus, lp, hon, hsus, hlp, _, hc.new _, by first | rfl | trivial | exact ⟨rfl, rfl⟩ | exact ⟨rfl, rfl, rfl⟩⟩
                  · simp only [go_sem]
                    try intro _
                    exact bad hcn (by rw [hR, hon, hsus, hlp])
                · simp only [go_sem]
                  try intro _
                  exact bad hcn (by rw [hR, hon, hsus])
              · simp only [go_sem]
                try intro _
                exact bad hcn (by rw [hR, hon])
            · first | skip | simp only [hszn, hsz2, hL0, hL1, hL4, q0, q1, q4, List.map_cons, List.map_nil, List.length_cons, List.length_nil, List.length_map, List.getElem?_cons_zero, List.getElem?_cons_succ, Option.map_some, go_sem, maxLenA, put_put, put_new, ne_up1, ne_dn1, ne_up2, ne_dn2, ne_up3, ne_dn3, ne_up4, ne_dn4, ne_up5, ne_dn5, ne_up6, ne_dn6, bytesOf, aMapUpdate, findA, keyEq, keyFits, aLookup, aAssert, mkIface, mkClo, wrap_i64, wrap_i32, wrap_u8, Int.cast_ofNat_Int, Option.some.injEq, Nat.reduceAdd, Nat.reduceSub, Nat.reduceMul, Nat.reduceEqDiff, Nat.reduceLT, Nat.reduceLeDiff, Nat.reduceMod, Nat.reduceDiv, Int.reduceLT, Int.reduceLE, Int.reduceToNat, Int.reduceNeg, Int.reduceEq, Int.reduceBEq, Int.reduceBNe, Nat.reduceBEq, Int.reduceMul, Int.reduceAdd, Int.reduceSub, Int.reduceDiv, Int.reduceTDiv, Int.reduceTMod, Int.reduceMod]
              refine wc_opt (wc49 (hrd hc) h0 h1 w0) (fun on hon => ?_) (fun hon => ?_)
              · simp only [List.map_cons, List.map_nil, List.getElem?_cons_zero, List.getElem?_cons_succ, Option.map_some, go_sem, ne_up1, ne_dn1, ne_up2, ne_dn2, ne_up3, ne_dn3, ne_up4, ne_dn4, ne_up5, ne_up6, ne_dn6, Option.some.injEq, Nat.reduceEqDiff, Nat.reduceLT]
                refine ⟨?_, ?_⟩
                · first | skip | simp only [hszn, hsz2, hL0, hL1, hL4, q0, q1, q4, List.map_cons, List.map_nil, List.length_cons, List.length_nil, List.length_map, List.getElem?_cons_zero, List.getElem?_cons_succ, Option.map_some, go_sem, maxLenA, put_put, put_new, ne_up1, ne_dn1, ne_up2, ne_dn2, ne_up3, ne_dn3, ne_up4, ne_dn4, ne_up5, ne_dn5, ne_up6, ne_dn6, bytesOf, aMapUpdate, findA, keyEq, keyFits, aLookup, aAssert, mkIface, mkClo, wrap_i64, wrap_i32, wrap_u8, Int.cast_ofNat_Int, Option.some.injEq, Nat.reduceAdd, Nat.reduceSub, Nat.reduceMul, Nat.reduceEqDiff, Nat.reduceLT, Nat.reduceLeDiff, Nat.reduceMod, Nat.reduceDiv, Int.reduceLT, Int.reduceLE, Int.reduceToNat, Int.reduceNeg, Int.reduceEq, Int.reduceBEq, Int.reduceBNe, Nat.reduceBEq, Int.reduceMul, Int.reduceAdd, Int.reduceSub, Int.reduceDiv, Int.reduceTDiv, Int.reduceTMod, Int.reduceMod]
                  refine wc_opt (wc49 (hrd hcn) h0 h1 w1) (fun sus hsus => ?_) (fun hsus => ?_)
                  · simp only [List.map_cons, List.map_nil, List.getElem?_cons_zero, List.getElem?_cons_succ, Option.map_some, go_sem, ne_up1, ne_up2, ne_dn2, ne_up3, ne_dn3, ne_up4, ne_up5, ne_dn5, ne_up6, ne_dn6, Option.some.injEq, Nat.reduceEqDiff, Nat.reduceLT]
                    refine wc_opt (wc49 (hrd hcn) h0 h1 w4) (fun lp hlp => ?_) (fun hlp => ?_)
                    · simp only [List.map_cons, List.map_nil, List.length_cons, List.length_nil, List.getElem?_cons_zero, List.getElem?_cons_succ, Option.map_some, go_sem, put_new, ne_up1, ne_up2, ne_dn2, ne_up3, ne_dn3, ne_up4, ne_dn4, ne_up5, ne_dn5, ne_up6, ne_dn6, Option.some.injEq, Nat.reduceAdd, Nat.reduceEqDiff, Nat.reduceLT, Nat.reduceLeDiff]
                      exact ⟨on, sus, lp, hon, hsus, hlp, _, hc.new _, by first | rfl | trivial | exact ⟨rfl, rfl⟩ | exact ⟨rfl, rfl, rfl⟩⟩
                    · simp only [go_sem]
                      try intro _
                      exact bad hcn (by rw [hR, hon, hsus, hlp])
                  · simp only [go_sem]
                    try intro _
                    exact bad hcn (by rw [hR, hon, hsus])
                · first | skip | simp only [hszn, hsz2, hL0, hL1, hL4, q0, q1, q4, List.map_cons, List.map_nil, List.length_cons, List.length_nil, List.length_map, List.getElem?_cons_zero, List.getElem?_cons_succ, Option.map_some, go_sem, maxLenA, put_put, put_new, ne_up1, ne_dn1, ne_up2, ne_dn2, ne_up3, ne_dn3, ne_up4, ne_dn4, ne_up5, ne_dn5, ne_up6, ne_dn6, bytesOf, aMapUpdate, findA, keyEq, keyFits, aLookup, aAssert, mkIface, mkClo, wrap_i64, wrap_i32, wrap_u8, Int.cast_ofNat_Int, Option.some.injEq, Nat.reduceAdd, Nat.reduceSub, Nat.reduceMul, Nat.reduceEqDiff, Nat.reduceLT, Nat.reduceLeDiff, Nat.reduceMod, Nat.reduceDiv, Int.reduceLT, Int.reduceLE, Int.reduceToNat, Int.reduceNeg, Int.reduceEq, Int.reduceBEq, Int.reduceBNe, Nat.reduceBEq, Int.reduceMul, Int.reduceAdd, Int.reduceSub, Int.reduceDiv, Int.reduceTDiv, Int.reduceTMod, Int.reduceMod]
                  refine wc_opt (wc49 (hrd hc) h0 h1 w1) (fun sus hsus => ?_) (fun hsus => ?_)
                  · simp only [List.map_cons, List.map_nil, List.getElem?_cons_zero, List.getElem?_cons_succ, Option.map_some, go_sem, ne_up1, ne_dn1, ne_up2, ne_dn2, ne_up3, ne_dn3, ne_up4, ne_dn4, ne_up5, ne_dn5, ne_up6, ne_dn6, Option.some.injEq, Nat.reduceEqDiff, Nat.reduceLT]
                    refine ⟨?_, ?_⟩
                    · first | skip | simp only [hszn, hsz2, hL0, hL1, hL4, q0, q1, q4, List.map_cons, List.map_nil, List.length_cons, List.length_nil, List.length_map, List.getElem?_cons_zero, List.getElem?_cons_succ, Option.map_some, go_sem, maxLenA, put_put, put_new, ne_up1, ne_dn1, ne_up2, ne_dn2, ne_up3, ne_dn3, ne_up4, ne_dn4, ne_up5, ne_dn5, ne_up6, ne_dn6, bytesOf, aMapUpdate, findA, keyEq, keyFits, aLookup, aAssert, mkIface, mkClo, wrap_i64, wrap_i32, wrap_u8, Int.cast_ofNat_Int, Option.some.injEq, Nat.reduceAdd, Nat.reduceSub, Nat.reduceMul, Nat.reduceEqDiff, Nat.reduceLT, Nat.reduceLeDiff, Nat.reduceMod, Nat.reduceDiv, Int.reduceLT, Int.reduceLE, Int.reduceToNat, Int.reduceNeg, Int.reduceEq, Int.reduceBEq, Int.reduceBNe, Nat.reduceBEq, Int.reduceMul, Int.reduceAdd, Int.reduceSub, Int.reduceDiv, Int.reduceTDiv, Int.reduceTMod, Int.reduceMod]
                      refine wc_opt (wc49 (hrd hcn) h0 h1 w4) (fun lp hlp => ?_) (fun hlp => ?_)
                      · simp only [List.map_cons, List.map_nil, List.length_cons, List.length_nil, List.getElem?_cons_zero, List.getElem?_cons_succ, Option.map_some, go_sem, put_new, ne_up1, ne_up2, ne_dn2, ne_up3, ne_dn3, ne_up4, ne_dn4, ne_up5, ne_dn5, ne_up6, ne_dn6, Option.some.injEq, Nat.reduceAdd, Nat.reduceEqDiff, Nat.reduceLT, Nat.reduceLeDiff]
                        exact ⟨on, sus, lp, hon, hsus, hlp, _, hc.new _, by first | rfl | trivial | exact ⟨rfl, rfl⟩ | exact ⟨rfl, rfl, rfl⟩⟩
                      · simp only [go_sem]
                        try intro _
                        exact bad hcn (by rw [hR, hon, hsus, hlp])
                    · first | skip | simp only [hszn, hsz2, hL0, hL1, hL4, q0, q1, q4, List.map_cons, List.map_nil, List.length_cons, List.length_nil, List.length_map, List.getElem?_cons_zero, List.getElem?_cons_succ, Option.map_some, go_sem, maxLenA, put_put, put_new, ne_up1, ne_dn1, ne_up2, ne_dn2, ne_up3, ne_dn3, ne_up4, ne_dn4, ne_up5, ne_dn5, ne_up6, ne_dn6, bytesOf, aMapUpdate, findA, keyEq, keyFits, aLookup, aAssert, mkIface, mkClo, wrap_i64, wrap_i32, wrap_u8, Int.cast_ofNat_Int, Option.some.injEq, Nat.reduceAdd, Nat.reduceSub, Nat.reduceMul, Nat.reduceEqDiff, Nat.reduceLT, Nat.reduceLeDiff, Nat.reduceMod, Nat.reduceDiv, Int.reduceLT, Int.reduceLE, Int.reduceToNat, Int.reduceNeg, Int.reduceEq, Int.reduceBEq, Int.reduceBNe, Nat.reduceBEq, Int.reduceMul, Int.reduceAdd, Int.reduceSub, Int.reduceDiv, Int.reduceTDiv, Int.reduceTMod, Int.reduceMod]
                      refine wc_opt (wc49 (hrd hc) h0 h1 w4) (fun lp hlp => ?_) (fun hlp => ?_)
                      · simp only [List.map_cons, List.map_nil, List.length_cons, List.length_nil, List.getElem?_cons_zero, List.getElem?_cons_succ, Option.map_some, go_sem, put_new, ne_up1, ne_dn1, ne_up2, ne_dn2, ne_up3, ne_dn3, ne_up4, ne_dn4, ne_up5, ne_dn5, ne_up6, ne_dn6, Option.some.injEq, Nat.reduceAdd, Nat.reduceEqDiff, Nat.reduceLT, Nat.reduceLeDiff]
                        exact ⟨on, sus, lp, hon, hsus, hlp, _, hc.new _, by first | rfl | trivial | exact ⟨rfl, rfl⟩ | exact ⟨rfl, rfl, rfl⟩⟩
                      · simp only [go_sem]
                        try intro _
                        exact bad hc (by rw [hR, hon, hsus, hlp])
                  · simp only [go_sem]
                    try intro _
                    exact bad hc (by rw [hR, hon, hsus])
              · simp only [go_sem]
                try intro _
                exact bad hc (by rw [hR, hon])
          · rintro e' T' ⟨on, sus, lp, hon, hsus, hlp, B, hc, g0, g5, g7, g4⟩
            simp only [hon, hsus, hlp] at hR
            generalize hev : (⟨on, [], sus, n2, n3, lp, n5, n6⟩ : EnvV) = ev at hc
            have hszr : allSize 1 (rest.map FV.str) = true := allSize_strs _
            have hrl : rest.length ≤ 1000000000 := by
              have := wordsO_length hv
              simp only [List.length_cons] at this; omega
            have hw7 : (7 : Nat) ≤ rest.length + 1 + 1 + 1 + 1 + 1 + 1 + 1 := by omega
            have htr : List.take rest.length (rest.map FV.str) = rest.map FV.str := List.take_of_length_le (by rw [List.length_map]; exact Nat.le_refl _)
            have hwt : rest.length + 1 + 1 + 1 + 1 + 1 + 1 + 1 - 7 = rest.length := by omega
            simp only [g5, hsz2, hw7, htr, List.map_cons, List.length_cons, List.length_map, List.drop_succ_cons, List.drop_zero, Nat.le_refl, go_sem, Nat.reduceLT, Int.reduceLE, Int.reduceToNat]
            refine wloop_measW (fun m' e S' => ∃ (i' : Nat) (ps : List (Int × Int)) (v : AV), m' = rest.length - i' ∧ i' ≤ rest.length ∧ ps.length = i' ∧
              RowIn (S.put rb (rdO ls j song)) ptC 138 2 B (fun v => .blk (envCA v ev) 0 52) [(S.next, .blk [.c (.bool false), .c .nils, .c (.bool false), i64 0, i64 0, .c (.bool false), i64 0, i64 0] 0 52)] ps v S' ∧
              (allO pairO (rest.drop i')).map (ps ++ ·) = allO pairO rest ∧ e.get 0 = .ref rb 0 ∧ e.get 4 = .ref S.next 0 ∧ e.get 7 = .ref B 0 ∧ e.get 55 = wordsV rest ∧ e.get 56 = i64 rest.length ∧ e.get 57 = i64 i') ?_ rest.length _ _ ?_
            · rintro m' e S' ⟨i', ps, v, rfl, hi', hps, hg, hm, g0, g4, g7, g55, g56, g57⟩
              rcases Nat.lt_or_ge i' rest.length with hlt' | hge
              · have q1 : ((i' : Int) < (rest.length : Int)) := by omega
                have q2 : ¬ ((i' : Int) < 0) := by omega
                have q3 : (rest.map FV.str)[i']? = some (.str rest[i']) := by simp [hlt']
                have q5 := step_wrap i' (by omega)
                have hwl : rest[i'].length ≤ 4000000000 := by
                  have := wordsO_sum hv (rest[i']) (by simp)
                  omega
                rw [allO_drop pairO rest i' hlt'] at hm
                refine wcode_sound ?_
                simp only [g0, g55, g56, g57, q1, q2, q3, hlt', hszr, List.length_map, Int.toNat_natCast, Option.map_some, go_sem, ne_up1, ne_up3, Nat.reduceEqDiff, Nat.reduceLT]
                refine wc_opt (wc81 (hrd hg.fr) h0 h1 (hkn hg.fr) rest[i'] hwl) (fun p hp => ?_) (fun hp => ?_)
                · rw [hp] at hm
                  have hm' : (allO pairO (rest.drop (i' + 1))).map (ps ++ [p] ++ ·) = allO pairO rest := by
                    rw [← hm]
                    cases allO pairO (rest.drop (i' + 1)) <;> simp
                  cases hg with
                  | nil h hl0 =>
                    subst hl0
                    have hB := h.get1
                    have hBn : (S'.next = B) = False := h.new_ne (List.mem_cons_self ..)
                    have hBn1 : (S'.next + 1 = B) = False := eq_false (by have := h.lt (List.mem_cons_self ..); omega)
                    simp only [Option.map_some, Nat.zero_add, Nat.zero_le, Nat.zero_mul, List.drop_zero, List.map_cons, List.map_nil, size_pair, t138b, t138s, t138z, g0, g4, g7, g55, g56, g57, q5, hB, hBn, hBn1, go_sem, maxLenA, ne_up1, ne_up2, ne_up3, ne_up4, ne_up5, ne_up6, Nat.reduceAdd, Nat.reduceMul, Nat.reduceEqDiff, Nat.reduceLT, Nat.reduceLeDiff]
                    exact ⟨rest.length - (i' + 1), by omega, i' + 1, [p], _, rfl, by omega, by rw [← hps]; rfl, RowIn.first h p _, hm', rfl⟩
                  | row h hpos =>
                    rename_i b
                    have hb := h.get1
                    have hB := h.drop.get1
                    have hbB : (b = B) = False := eq_false (h.apart (List.mem_cons_self ..))
                    have hBb : (B = b) = False := eq_false (fun e => h.apart (List.mem_cons_self ..) e.symm)
                    have hbn : (S'.next = b) = False := h.new_ne (List.mem_cons_self ..)
                    have hbn1 : (S'.next + 1 = b) = False := eq_false (by have := h.lt (List.mem_cons_self ..); omega)
                    have hBn : (S'.next = B) = False := h.drop.new_ne (List.mem_cons_self ..)
                    have hBn1 : (S'.next + 1 = B) = False := eq_false (by have := h.drop.lt (List.mem_cons_self ..); omega)
                    have hrc : (rowC ptC ps).length = ps.length * 2 := rowC_length ptC (s := 2) (fun _ => rfl) ps
                    have zt : (rowC ptC ps).take (ps.length * 2) = rowC ptC ps := List.take_of_length_le (by omega)
                    have z1 : (ps.length + 1) * 16 ≤ 140737488355328 := by omega
                    have z2 : ¬ ((ps.length + 1) * 2 ≤ ps.length * 2) := by omega
                    simp only [Option.map_some, Nat.zero_add, Nat.zero_le, Nat.zero_mul, List.drop_zero, List.map_cons, List.map_nil, size_pair, t138b, t138s, t138z, g0, g4, g7, g55, g56, g57, q5, hb, hB, hbB, hbn, hBn, hBn1, hrc, zt, z1, z2, Nat.le_refl, go_sem, maxLenA, ne_up1, ne_up2, ne_up3, ne_up4, ne_up5, ne_up6, Nat.reduceAdd, Nat.reduceSub, Nat.reduceMul, Nat.reduceEqDiff, Nat.reduceLT, Nat.reduceLeDiff]
                    exact ⟨rest.length - (i' + 1), by omega, i' + 1, ps ++ [p], _, rfl, by omega, by rw [List.length_append, hps]; rfl, RowIn.more h p _, hm', rfl⟩
                · rw [hp] at hm
                  simp only [go_sem]
                  refine bad hg.fr ?_
                  rw [hR, ← hm]; rfl
              · have q1 : ¬ ((i' : Int) < (rest.length : Int)) := by omega
                rw [List.drop_eq_nil_of_le hge] at hm
                simp only [allO, Option.map_some, List.append_nil] at hm
                obtain ⟨T1, href, hc'⟩ := hg.closeUp (P := Tryz.prog) (C := fun v => envCA v ev) (ro := 0) (i := 1) (U2 := 52) (e := keyV) (fun T b hT => frz_rows (s := 2) (fun _ => rfl) ag138 sz138 hT) (fun _ => rfl) (fun _ => rfl) (fun _ _ => rfl)
                refine w_refine href (wcode_sound ?_)
                have hB := hc'.get1
                have hC := hc'.drop.get1
                simp only [g4, g7, g56, g57, q1, hB, hC, go_sem, Nat.reduceAdd, Nat.reduceEqDiff, Nat.reduceLT, Nat.reduceLeDiff]
                refine ends_fwd (S := S.put rb (rdO ls j song)) ((hc'.drop.put _).fwd hS1) rfl (.inl ?_)
                rw [hR, ← hm, ← hev]
                exact ⟨rfl, rfl, hj1, hj2⟩
            · exact ⟨0, [], _, rfl, Nat.zero_le _, rfl, .nil hc rfl, by rw [List.drop_zero]; cases allO pairO rest <;> simp, by simp only [g0, go_sem, Nat.reduceEqDiff], by simp only [g4, go_sem, Nat.reduceEqDiff], by simp only [g7, go_sem, Nat.reduceEqDiff], by simp only [go_sem, ne_up1, ne_up2], by simp only [go_sem, ne_up1], by simp only [go_sem, Int.cast_ofNat_Int]⟩
        · rw [hn] at hR
          simp only [go_sem]
          exact bad hc hR
      · have h7' : ((v.length : Int) ≥ 7) = False := by simp; omega
        rw [decide_eq_false h7, if_neg (by simp)] at hR
        simp only [h7', List.length_map, go_sem, ne_up1, ne_up2, ne_up3, ne_up4, ne_up5, Nat.reduceEqDiff, Nat.reduceLT, Int.reduceNeg]
        refine wc_must (hrd hc) h0 h1 (fun h => by cases h) (fun _ => ?_)
        simp only [go_sem]
        exact bad hc hR
    · rw [hv] at hR
      simp only [go_sem, Int.reduceNeg]
      exact bad hc hR
  · simp only [go_sem, Int.reduceNeg]
    exact .inr ⟨S.put rb (rdO ls j song), rfl, rfl, (((FR.start hS.1).new _).put_old hlt (rdO ls j song)).fwd (shut_rd hS hr j), by rw [hR, hl]; exact ⟨rfl, j, rfl⟩⟩
  · simp only [go_sem, Int.reduceNeg]
    exact .inr ⟨S.put rb (rdO ls j song), rfl, rfl, (((FR.start hS.1).new _).put_old hlt (rdO ls j song)).fwd (shut_rd hS hr j), by rw [hR, hl]; exact ⟨rfl, j, rfl⟩⟩
end Go.Proofs.YtgjnimemofmncaaGreatDoor

namespace Go.Proofs.YtgjnimemofmncaaGreatDoor
open Go.Abs Go.Tx
set_option maxHeartbeats 1000000
set_option maxRecDepth 20000
def markMap : List (FV × AV) := [(.int .i64 0, .c (.str [46, 46, 46])), (.int .i64 255, .c (.str [61, 61, 61])), (.int .i64 254, .c (.str [94, 94, 94])), (.int .i64 253, .c (.str [126, 126, 126]))]
theorem wc70 (S : St) : WC Tryz.prog 70 [] (Is (.map S.next) (S.new (.map markMap [0, 1, 2, 3] 4))) S := by
  refine wc_fn (fn := Tryz.f70) (N := 3) (rs := [.tmp 0]) (by rfl) (by kernel_rfl) (by rfl) (by rfl) (by rfl) (by rfl) fun hS => ?_
  simp only [go_sem, put_new, aMapUpdate, findA, keyEq, keyFits, Nat.reduceAdd, Nat.reduceLT, Int.reduceBEq]
  exact ends_now ⟨rfl, rfl⟩
open Go.RowKit in
theorem wc34 {b off : Nat} {full : Bool} {xs : List (List UInt8)} {sep : List UInt8} {cs : List AV} {ro : Nat} {T : TypeId} {S : St} (hb : S.get b = some (.blk cs ro T))
    (hcs : ∀ (j : Nat) (x : List UInt8), xs[j]? = some x → cs[off + j]? = some (.c (.str x))) (hlen : (Lib.join xs sep).length ≤ 140737488355328) (hN : xs.length ≤ 140737488355328) (h0 : 0 < xs.length) :
    WC Tryz.prog 34 [.sl b off xs.length 1 full, .c (.str sep)] (Is (.c (.str (Lib.join xs sep))) S) S := by
  refine wc_calls (fun vals w => Tryz.call34 vals w) fun G vals w hr hI => ?_
  obtain ⟨x, y, rfl, hx, hy⟩ := relL_two hr
  rw [rel_str hy]
  cases hx with
  | @sl _ _ _ _ _ B a cap hB ha hl hrm hf hk =>
    rw [ha (by omega)]
    obtain ⟨B', hB', _, _, C, lo, hi, hC, _, hcell, _⟩ := hI.obs b _ hb rfl
    rw [hB] at hB'
    cases hB'
    have hmap : (xs.map fun x => (⟨x.toArray⟩ : ByteArray)).map (·.data.toList) = xs := by simp [List.map_map, Function.comp_def]
    have key := Tryz.strings_Join B.g (B.o + off) cap (xs.map fun x => (⟨x.toArray⟩ : ByteArray)) ⟨sep.toArray⟩ w (fun j x hj => by
        rw [List.getElem?_map] at hj
        cases hxj : xs[j]? with
        | none => rw [hxj] at hj; cases hj
        | some z =>
          rw [hxj] at hj
          cases hj
          obtain ⟨v, v1, v2, _⟩ := hcell _ _ (hcs j z hxj)
          rw [rel_str v2] at v1
          rw [cell_at hC, Nat.add_assoc]
          exact v1) (heap_lt hC) (by simpa using hN) (by simpa using hl) (by rw [hmap]; exact hlen)
    rw [List.length_map, hmap] at key
    refine Calls.mono key ?_
    rintro e w' ⟨rfl, hbel⟩
    exact ⟨_, rfl, str_rel _ _, hbel⟩
def stA (a b c d e f : Int) (S : St) : St := (S.new (.blk [i64 a, i64 b, i64 c, i64 d, i64 e, i64 f] 0 90)).new (.map markMap [0, 1, 2, 3] 4)
theorem wc33 (a b c d e f : Int) (S : St) : WC Tryz.prog 33 [.c (cellFV a b c d e f)]
    (Is (.tup (if validC a b c d e f = true then [.c (.str (cellT a b c d e f)), i64 0] else [.c (.str []), i64 1])) S) S := by
  refine wc_fn (fn := Tryz.f33) (N := 65) (rs := [.tmp 2, .tmp 3]) (by rfl) (by kernel_rfl) (by rfl) (by rfl) (by rfl) (by rfl) fun hS => ?_
  simp only [cellFV]
  simp only [go_sem, ne_up1, ne_up2, Nat.reduceAdd, Nat.reduceLT, Nat.reduceLeDiff]
  with_reducible refine wc_is (wc69 a b c d e f _) ?_
  cases hv : validC a b c d e f with
  | false =>
    simp only [go_sem, ne_up1, Nat.reduceLT]
    exact ends_popped rfl (by simp only [popOk_new, hS.2, Nat.le_refl]) (by simp only [pop_new, pop_self hS.1, Nat.le_refl]) ⟨rfl, rfl⟩
  | true =>
    simp only [go_sem, Nat.reduceLT]
    refine wdraw_cut (fun e' S' => S' = stA a b c d e f S ∧ e'.get 1 = .ref S.next 0 ∧ ∃ t : Bool, e'.get 5 = .c (.bool t) ∧ (t = false → 0 < a ∧ a ≤ 120) ∧ (t = true → e'.get 4 = .c (.str (notedT a)))) ?_ ?_
    · refine wdraw_plan ch33x3 pp33x3 (by kernel_rfl) (by kernel_rfl) (by kernel_rfl) ?_
      simp only [go_sem, ne_up1, ne_dn1, ne_up2, ne_dn2, ne_up3, ne_dn3, ne_up4, ne_dn4, ne_up5, ne_dn5, ne_up6, Nat.reduceAdd, Nat.reduceEqDiff, Nat.reduceLT]
      with_reducible refine wc_is (wc70 _) ?_
      have hn : vnote a = true := by
        simp only [validC, Bool.and_eq_true] at hv
        exact hv.1.1.1
      have ha : a = 0 ∨ a = 255 ∨ a = 254 ∨ a = 253 ∨ (0 < a ∧ a ≤ 120) := by
        simp only [vnote, Bool.and_eq_true, Bool.or_eq_true, decide_eq_true_eq, beq_iff_eq] at hn
        omega
      rcases ha with rfl | rfl | rfl | rfl | ⟨h0, h1⟩
      · simp only [markMap, go_sem, ne_up1, ne_dn1, ne_up2, ne_dn2, ne_up3, ne_up4, ne_up5, ne_up6, findA, keyEq, keyFits, aLookup, Option.some.injEq, Nat.reduceEqDiff, Nat.reduceLT, Int.reduceLT, Int.reduceLE, Int.reduceBEq]
        exact ⟨rfl, true, rfl, fun h => (by cases h), fun _ => rfl⟩
      · simp only [markMap, go_sem, ne_up1, ne_dn1, ne_up2, ne_dn2, ne_up3, ne_up4, ne_up5, ne_up6, findA, keyEq, keyFits, aLookup, Option.some.injEq, Nat.reduceEqDiff, Nat.reduceLT, Int.reduceLT, Int.reduceLE, Int.reduceBEq]
        exact ⟨rfl, true, rfl, fun h => (by cases h), fun _ => rfl⟩
      · simp only [markMap, go_sem, ne_up1, ne_dn1, ne_up2, ne_dn2, ne_up3, ne_up4, ne_up5, ne_up6, findA, keyEq, keyFits, aLookup, Option.some.injEq, Nat.reduceEqDiff, Nat.reduceLT, Int.reduceLT, Int.reduceLE, Int.reduceBEq]
        exact ⟨rfl, true, rfl, fun h => (by cases h), fun _ => rfl⟩
      · simp only [markMap, go_sem, ne_up1, ne_dn1, ne_up2, ne_dn2, ne_up3, ne_up4, ne_up5, ne_up6, findA, keyEq, keyFits, aLookup, Option.some.injEq, Nat.reduceEqDiff, Nat.reduceLT, Int.reduceLT, Int.reduceLE, Int.reduceBEq]
        exact ⟨rfl, true, rfl, fun h => (by cases h), fun _ => rfl⟩
      · have n1 : (a == 0) = false := by simp; omega
        have n2 : (a == 255) = false := by simp; omega
        have n3 : (a == 254) = false := by simp; omega
        have n4 : (a == 253) = false := by simp; omega
        simp only [markMap, n1, n2, n3, n4, go_sem, ne_up1, ne_dn1, ne_up2, ne_dn2, ne_up3, ne_up4, ne_up5, ne_up6, findA, keyEq, keyFits, aLookup, Option.some.injEq, Nat.reduceEqDiff, Nat.reduceLT]
        exact ⟨rfl, false, rfl, fun _ => ⟨h0, h1⟩, fun h => (by cases h)⟩
    rintro e' S' ⟨rfl, g1, t, g5, k0, k1⟩
    have gS : (stA a b c d e f S).get S.next = some (.blk [i64 a, i64 b, i64 c, i64 d, i64 e, i64 f] 0 90) := by
      simp only [stA, go_sem, ne_up1]
    have gN : (stA a b c d e f S).next = S.next + 2 := rfl
    have hv' := hv
    simp only [validC, vpart, Bool.and_eq_true, Bool.or_eq_true, decide_eq_true_eq, beq_iff_eq] at hv'
    obtain ⟨⟨⟨hva, hb0, hb1⟩, ⟨⟨hc0, hc1⟩, hd0, hd1⟩, hcd⟩, ⟨⟨he0, he1⟩, hf0, hf1⟩, hef⟩ := hv'
    simp only [g5, go_sem, Nat.reduceLT]
    refine condK_cut (fun e' S' => S' = stA a b c d e f S ∧ e'.get 1 = .ref S.next 0 ∧ e'.get 4 = .c (.str (notedT a))) ?_ ?_
    · cases t with
      | false =>
        obtain ⟨h0, h1⟩ := k0 rfl
        have w1 : IntKind.i64.wrap (a - 1) = a - 1 := wrap_i64 _ (by omega) (by omega)
        simp only [g1, gS, w1, go_sem, Nat.reduceAdd, Nat.reduceEqDiff, Nat.reduceLT]
        with_reducible refine wc_is (wc71 _ _) ?_
        simp only [g1, go_sem, ne_up3, Nat.reduceEqDiff, Nat.reduceLT]
        simp [notedT, show a ≠ 0 by omega, show a ≠ 255 by omega, show a ≠ 254 by omega, show a ≠ 253 by omega]
      | true =>
        have g4 := k1 rfl
        simp only [g1, g4, go_sem, Nat.reduceEqDiff]
    rintro e' S' ⟨rfl, g1, g4⟩
    simp only [g1, g4, gS, gN, go_sem, ne_up2, ne_up5, Nat.reduceAdd, Nat.reduceMul, Nat.reduceEqDiff, Nat.reduceLT, Nat.reduceLeDiff]
    have pN : ∀ o o', ((stA a b c d e f S).new o).put (S.next + 2) o' = (stA a b c d e f S).new o' := fun o o' => put_new _ o o'
    refine condK_cut (fun e' S' => S' = (stA a b c d e f S).new (.blk [.c (.str (notedT a)), .c (.str (instT b)), .c (.str [46, 46, 46]), .c (.str [46, 46, 46])] 0 9) ∧ e'.get 1 = .ref S.next 0 ∧ e'.get 6 = .sl (S.next + 2) 0 4 1 true) ?_ ?_
    · by_cases hb : 0 < b
      · have t1 : (b > 0) = True := by simp [hb]
        simp only [g1, gS, gN, t1, go_sem, ne_up2, ne_up5, Nat.reduceAdd, Nat.reduceEqDiff, Nat.reduceLT]
        with_reducible refine wc_is (wc72 b 10 (by omega) (by decide) (by decide) (by omega) _) ?_
        simp only [g1, gN, pN, go_sem, ne_up1, ne_up2, ne_up3, ne_up5, Nat.reduceAdd, Nat.reduceMul, Nat.reduceEqDiff, Nat.reduceLT, Nat.reduceLeDiff, Int.reduceLT, Int.reduceToNat]
        simp [instT, hb, dig]
      · have t1 : (b > 0) = False := by simp; omega
        simp only [g1, t1, go_sem, ne_up5, Nat.reduceEqDiff]
        simp [instT, hb]
    rintro e' S' ⟨rfl, g1, g6⟩
    simp only [g1, gS, gN, go_sem, ne_up2, Nat.reduceAdd, Nat.reduceLT]
    refine condK_cut (fun e' S' => S' = (stA a b c d e f S).new (.blk [.c (.str (notedT a)), .c (.str (instT b)), .c (.str (volT c d)), .c (.str [46, 46, 46])] 0 9) ∧ e'.get 1 = .ref S.next 0 ∧ e'.get 6 = .sl (S.next + 2) 0 4 1 true) ?_ ?_
    · by_cases hc : 0 < c
      · have t1 : (c > 0) = True := by simp [hc]
        simp only [t1, go_sem]
        refine wdraw_plan ch33x10 pp33x10 (by kernel_rfl) (by kernel_rfl) (by kernel_rfl) ?_
        have w1 : IntKind.i64.wrap (97 + c) = 97 + c := wrap_i64 _ (by omega) (by omega)
        have w2 : IntKind.i64.wrap (97 + c - 1) = 97 + c - 1 := wrap_i64 _ (by omega) (by omega)
        have w3 : IntKind.i32.wrap (97 + c - 1) = 97 + c - 1 := wrap_i32 _ (by omega) (by omega)
        have w4 : (Utf8.encode (97 + c - 1)).data.toList = [UInt8.ofNat (96 + c.toNat)] := by
          rw [encode_small _ (by omega) (by omega)]
          congr 2
          omega
        simp only [g1, g6, gS, gN, w1, w2, w3, w4, go_sem, ne_up2, Nat.reduceAdd, Nat.reduceEqDiff, Nat.reduceLT]
        refine ⟨_, wc72 d 10 (by omega) (by decide) (by decide) (by omega) _, ?_⟩
        simp only [g1, g6, gN, pN, go_sem, maxLenA, ne_up1, ne_up2, ne_up3, ne_up4, ne_up5, ne_up6, Nat.reduceAdd, Nat.reduceMul, Nat.reduceEqDiff, Nat.reduceLT, Nat.reduceLeDiff, Int.reduceLT, Int.reduceToNat]
        simp [volT, hc, dig]
      · have t1 : (c > 0) = False := by simp; omega
        simp only [g1, g6, t1, go_sem, Nat.reduceEqDiff]
        simp [volT, hc]
    rintro e' S' ⟨rfl, g1, g6⟩
    simp only [g1, gS, gN, go_sem, ne_up2, Nat.reduceAdd, Nat.reduceLT]
    refine condK_cut (fun e' S' => S' = (stA a b c d e f S).new (.blk [.c (.str (notedT a)), .c (.str (instT b)), .c (.str (volT c d)), .c (.str (effT e f))] 0 9) ∧ e'.get 6 = .sl (S.next + 2) 0 4 1 true) ?_ ?_
    · by_cases he : 0 < e
      · have t1 : (e > 0) = True := by simp [he]
        simp only [t1, go_sem]
        refine wdraw_plan ch33x12 pp33x12 (by kernel_rfl) (by kernel_rfl) (by kernel_rfl) ?_
        have w1 : IntKind.i64.wrap (e - 1) = e - 1 := wrap_i64 _ (by omega) (by omega)
        have w2 : 0 ≤ e - 1 := by omega
        have w3 : (e - 1).toNat ≤ e.toNat := by omega
        have w4 : e.toNat ≤ 36 := by omega
        have w5 : e.toNat = (e - 1).toNat + 1 := by omega
        have w6 : 0 ≤ e := by omega
        have w7 : (e - 1).toNat ≤ (e - 1).toNat + 1 := by omega
        have w8 : (e - 1).toNat + 1 ≤ 36 := by omega
        simp only [g1, g6, gS, gN, w1, w2, w6, w5, w7, w8, effs_one' (e - 1).toNat (by omega), go_sem, ne_up1, ne_up2, Nat.reduceAdd, Nat.reduceEqDiff, Nat.reduceLT]
        refine ⟨_, wc72 f 16 (by omega) (by decide) (by decide) (by omega) _, ?_⟩
        simp only [g6, gN, pN, go_sem, maxLenA, ne_up1, ne_up2, ne_up3, ne_up4, ne_up5, ne_up6, Nat.reduceAdd, Nat.reduceMul, Nat.reduceEqDiff, Nat.reduceLT, Nat.reduceLeDiff, Int.reduceLT, Int.reduceToNat]
        simp [effT, he, dig]
      · have t1 : (e > 0) = False := by simp; omega
        simp only [g6, t1, go_sem, Nat.reduceEqDiff]
        simp [effT, he]
    rintro e' S' ⟨rfl, g6⟩
    simp only [g6, go_sem, Nat.reduceLT]
    have hj : Lib.join [notedT a, instT b, volT c d, effT e f] [32] = cellT a b c d e f := by
      simp [Lib.join, List.intercalate, List.intersperse, cellT]
    have hlen : (cellT a b c d e f).length ≤ 140737488355328 := by
      have l0 : (notedT a).length ≤ 3 := notedT_len a
      have l1 : (instT b).length ≤ 2 := by unfold instT; split <;> simp
      have l2 : (volT c d).length ≤ 3 := by unfold volT; split <;> simp
      have l3 : (effT e f).length ≤ 3 := by unfold effT; split <;> simp
      simp only [cellT, List.length_append, List.length_cons]
      omega
    with_reducible refine wc_is (wc34 (xs := [notedT a, instT b, volT c d, effT e f]) (cs := [.c (.str (notedT a)), .c (.str (instT b)), .c (.str (volT c d)), .c (.str (effT e f))]) (ro := 0) (T := 9) ?_ ?_ ?_ ?_ ?_) ?_
    · simp only [gN, go_sem]
    · intro j x hx
      match j, hx with
      | 0, hx | 1, hx | 2, hx | 3, hx => cases hx; rfl
    · rw [hj]; exact hlen
    · simp
    · simp
    · simp only [go_sem, ne_up1, Nat.reduceLT]
      rw [hj]
      refine ends_popped rfl ?_ ?_ ⟨rfl, rfl⟩
      · exact popOk_new (by rw [gN]; omega) (popOk_new (by rw [next_new]; omega) (popOk_new (Nat.le_refl _) hS.2))
      · rw [pop_new (by rw [gN]; omega), stA, pop_new (by rw [next_new]; omega), pop_new (Nat.le_refl _), pop_self hS.1]
end Go.Proofs.YtgjnimemofmncaaGreatDoor

namespace Go.Proofs.YtgjnimemofmncaaGreatDoor
open Go.Abs Go.Tx
set_option maxHeartbeats 1000000
set_option maxRecDepth 20000
theorem get_at (s : List UInt8) (i : Nat) (h : i < s.length) : (⟨s.toArray⟩ : ByteArray).get! i = s[i] := by
  show s.toArray[i]! = s[i]
  simp [h]
theorem decode_ascii (s : List UInt8) (i : Nat) (h : i < s.length) (hb : s[i].toNat < 128) : Utf8.decode ⟨s.toArray⟩ i = (s[i].toNat, 1) := by
  unfold Utf8.decode
  simp only [Nat.add_zero, get_at s i h]
  rw [if_pos hb]
theorem decode_big (s : List UInt8) (i : Nat) (h : i < s.length) (hb : 128 ≤ s[i].toNat) : 128 ≤ (Utf8.decode ⟨s.toArray⟩ i).1 := by
  unfold Utf8.decode
  simp only [Nat.add_zero, get_at s i h]
  rw [if_neg (by omega)]
  repeat' split
  all_goals first
    | (show 128 ≤ Utf8.runeError; decide)
    | (rename_i hc; exact hc)
    | (rename_i hc; simp only [Bool.and_eq_true, decide_eq_true_eq] at hc; show 128 ≤ _; omega)
theorem wc149 (s : List UInt8) (hs : ∀ x ∈ s, x.toNat < 128) (hl : s.length ≤ 1000) (r : Int) (S : St) : WC Tryz.prog 149 [.c (.str s), .c (.int .i32 r)] (Is (i64 (plc r s 0)) S) S := by
  refine wc_fn (fn := Tryz.f149) (N := 17) (rs := [.tmp 4]) (by rfl) (by kernel_rfl) (by rfl) (by rfl) (by rfl) (by rfl) fun hS => ?_
  simp only [go_sem, ne_up4, Nat.reduceAdd, Nat.reduceLT, Int.reduceNeg]
  refine wloop_meas (fun n e S' => ∃ i : Nat, S' = S.new (.siter s i) ∧ n = s.length - i ∧ i ≤ s.length ∧ e.get 0 = .c (.str s) ∧ e.get 1 = .c (.int .i32 r) ∧ e.get 8 = .iter S.next ∧ plc r (s.drop i) i = plc r s 0) ?_ s.length _ _ ?_
  · rintro n e S' ⟨i, rfl, rfl, hi, g0, g1, g8, hp⟩
    rcases Nat.lt_or_ge i s.length with hlt | hge
    · have hd := decode_ascii s i hlt (hs _ (List.getElem_mem _))
      simp only [g1, g8, hlt, hd, go_sem, put_new, ne_up1, ne_up2, ne_up4, ne_up5, Nat.reduceEqDiff, Nat.reduceLT, Int.reduceNeg]
      by_cases hx : (s[i].toNat : Int) = r
      · have h4 : ((s[i].toNat : Int) == r) = true := by simpa using hx
        simp only [h4, go_sem, ne_up1, Nat.reduceEqDiff, Nat.reduceLT, Int.reduceNeg]
        refine ends_popped rfl (by simp only [popOk_new, hS.2, Nat.le_refl]) (by simp only [pop_new, pop_self hS.1, Nat.le_refl]) ⟨?_, rfl⟩
        rw [← hp, List.drop_eq_getElem_cons hlt, plc, if_pos hx]
      · have h4 : ((s[i].toNat : Int) == r) = false := by simpa using hx
        simp only [h4, g0, g1, g8, go_sem, ne_up1, ne_up2, ne_dn2, ne_up3, ne_dn3, ne_up4, ne_up5, ne_up6, Nat.reduceEqDiff, Int.reduceNeg]
        refine ⟨s.length - (i + 1), by omega, i + 1, rfl, rfl, by omega, ?_⟩
        rw [← hp, List.drop_eq_getElem_cons hlt, plc, if_neg hx]
    · have h1 : ¬ (i < s.length) := by omega
      simp only [g8, h1, go_sem, Nat.reduceLT, Int.reduceNeg]
      refine ends_popped rfl (by simp only [popOk_new, hS.2, Nat.le_refl]) (by simp only [pop_new, pop_self hS.1, Nat.le_refl]) ⟨?_, rfl⟩
      rw [← hp, List.drop_eq_nil_of_le hge]; rfl
  · exact ⟨0, rfl, rfl, Nat.zero_le _, by simp only [go_sem, ne_up4, Nat.reduceEqDiff], by simp only [go_sem, ne_dn1, ne_up3, ne_up6, Nat.reduceEqDiff], by simp only [go_sem], rfl⟩
theorem dgv_big (bs : Nat) (x : UInt8) (h : 128 ≤ x.toNat) : dgv bs x = -1 :=
  plc_none _ _ _ fun y hy => by have := effs_ascii y (List.mem_of_mem_take hy); omega
theorem plc_big (bs : Nat) (r : Nat) (h : 128 ≤ r) : plc (r : Int) (effs.take bs) 0 = -1 :=
  plc_none _ _ _ fun y hy => by have := effs_ascii y (List.mem_of_mem_take hy); omega
theorem wc120 (x y : UInt8) (bs : Nat) (h0 : 0 < bs) (hb : bs ≤ 36) (S : St) : WC Tryz.prog 120 [.c (.str [x, y]), i64 bs] (Is (i64 (dg2 bs x y)) S) S := by
  have n0 : ¬ ((bs : Int) < 0) := by omega
  have n1 : (0 : Int) ≤ bs := by omega
  have n2 : ((bs : Int)).toNat = bs := by simp
  have n3 : bs ≤ effs.length := hb
  have hA : ∀ z ∈ effs.take bs, z.toNat < 128 := fun z hz => effs_ascii z (List.mem_of_mem_take hz)
  have hL : (effs.take bs).length ≤ 1000 := by simp; omega
  have call : ∀ (r : Nat) (T : St), WC Tryz.prog 149 [.c (.str (effs.take bs)), .c (.int .i32 (r : Int))] (Is (i64 (plc (r : Int) (effs.take bs) 0)) T) T := fun r T => wc149 _ hA hL r T
  have e1 : List.take bs [48, 49, 50, 51, 52, 53, 54, 55, 56, 57, 65, 66, 67, 68, 69, 70, 71, 72, 73, 74, 75, 76, 77, 78, 79, 80, 81, 82, 83, 84, 85, 86, 87, 88, 89, 90] = effs.take bs := rfl
  have bx := dgv_bound bs hb x
  have by' := dgv_bound bs hb y
  refine wc_fn (fn := Tryz.f120) (N := 26) (rs := [.tmp 4]) (by rfl) (by kernel_rfl) (by rfl) (by rfl) (by rfl) (by rfl) fun hS => ?_
  simp only [go_sem, ne_up4, ne_up5, Nat.reduceAdd, Nat.reduceLT, Int.reduceNeg]
  refine wloop_round ?_
  simp only [Nat.zero_lt_succ, n1, n2, hb, e1, Nat.zero_le, go_sem, put_new, ne_up1, ne_dn1, ne_up3, ne_up4, ne_up6, Int.cast_ofNat_Int, Nat.reduceAdd, Nat.reduceEqDiff, Nat.reduceLT, Int.reduceNeg]
  with_reducible refine wc_is (call _ _) ?_
  rcases Nat.lt_or_ge x.toNat 128 with hx | hx
  · have d0 : Utf8.decode ⟨#[x, y]⟩ 0 = (x.toNat, 1) := decode_ascii [x, y] 0 (by simp) hx
    simp only [d0, Nat.zero_add, go_sem, Nat.reduceLT, Int.reduceNeg]
    rcases bx with hv | ⟨hv0, hv1⟩
    · have e2 : plc (x.toNat : Int) (effs.take bs) 0 = -1 := hv
      simp only [e2, go_sem, Nat.reduceLT, Int.reduceLT, Int.reduceNeg]
      refine ends_popped rfl (by simp only [popOk_new, hS.2, Nat.le_refl]) (by simp only [pop_new, pop_self hS.1, Nat.le_refl]) ⟨?_, rfl⟩
      rw [dg2, if_pos (by omega)]
    · have e2 : ¬ (plc (x.toNat : Int) (effs.take bs) 0 < 0) := by unfold dgv at hv0; omega
      have e3 : IntKind.i64.wrap (plc (x.toNat : Int) (effs.take bs) 0) = dgv bs x := by
        rw [wrap_i64 _ (by unfold dgv at hv0; omega) (by unfold dgv at hv1; omega)]; rfl
      simp only [e2, e3, Int.zero_mul, Int.zero_add, go_sem, ne_up1, ne_dn1, ne_up2, ne_up3, ne_up4, ne_up5, ne_up6, wrap_i64, Nat.reduceEqDiff, Nat.reduceLT, Int.reduceLE, Int.reduceNeg]
      refine wloop_round ?_
      simp only [n1, n2, hb, e1, Nat.zero_le, Nat.lt_succ_self, go_sem, put_new, ne_up1, ne_dn1, ne_up2, ne_dn2, ne_up3, ne_dn3, ne_up4, ne_up5, ne_dn5, ne_up6, Int.cast_ofNat_Int, Nat.reduceAdd, Nat.reduceEqDiff, Nat.reduceLT, Int.reduceNeg]
      with_reducible refine wc_is (call _ _) ?_
      rcases Nat.lt_or_ge y.toNat 128 with hy | hy
      · have d1 : Utf8.decode ⟨#[x, y]⟩ 1 = (y.toNat, 1) := decode_ascii [x, y] 1 (by simp) hy
        simp only [d1, go_sem, Nat.reduceAdd, Nat.reduceLT, Int.reduceNeg]
        rcases by' with hw | ⟨hw0, hw1⟩
        · have f2 : plc (y.toNat : Int) (effs.take bs) 0 = -1 := hw
          simp only [f2, go_sem, Nat.reduceLT, Int.reduceLT, Int.reduceNeg]
          refine ends_popped rfl (by simp only [popOk_new, hS.2, Nat.le_refl]) (by simp only [pop_new, pop_self hS.1, Nat.le_refl]) ⟨?_, rfl⟩
          rw [dg2, if_neg (by omega), if_pos (by omega)]
        · have f2 : ¬ (plc (y.toNat : Int) (effs.take bs) 0 < 0) := by unfold dgv at hw0; omega
          have hm : dgv bs x * bs ≤ 36 * 36 := by
            have : dgv bs x * bs ≤ 36 * bs := Int.mul_le_mul_of_nonneg_right (by omega) (by omega)
            omega
          have hm0 : 0 ≤ dgv bs x * bs := Int.mul_nonneg hv0 (by omega)
          have f3 : IntKind.i64.wrap (dgv bs x * bs) = dgv bs x * bs := wrap_i64 _ (by omega) (by omega)
          have f4 : IntKind.i64.wrap (dgv bs x * bs + plc (y.toNat : Int) (effs.take bs) 0) = dgv bs x * bs + dgv bs y := by
            unfold dgv at hw0 hw1 ⊢
            exact wrap_i64 _ (by unfold dgv at hm0; omega) (by unfold dgv at hm; omega)
          simp only [f2, f3, f4, go_sem, ne_up1, ne_dn1, ne_up2, ne_up3, ne_up4, ne_up6, Nat.reduceEqDiff, Nat.reduceLT, Int.reduceNeg]
          refine wloop_round ?_
          simp only [Nat.lt_irrefl, go_sem, ne_up1, ne_up2, ne_dn2, ne_up3, ne_dn3, ne_up4, ne_up5, ne_dn5, ne_up6, Int.cast_ofNat_Int, Nat.reduceAdd, Nat.reduceEqDiff, Nat.reduceLT, Int.reduceNeg]
          refine ends_popped rfl (by simp only [popOk_new, hS.2, Nat.le_refl]) (by simp only [pop_new, pop_self hS.1, Nat.le_refl]) ⟨?_, rfl⟩
          rw [dg2, if_neg (by omega), if_neg (by omega)]
      · have d1 := decode_big [x, y] 1 (by simp) hy
        have e4 : plc ((Utf8.decode ⟨#[x, y]⟩ 1).1 : Int) (effs.take bs) 0 = -1 := plc_big _ _ d1
        simp only [e4, go_sem, Nat.reduceLT, Int.reduceLT, Int.reduceNeg]
        refine ends_popped rfl (by simp only [popOk_new, hS.2, Nat.le_refl]) (by simp only [pop_new, pop_self hS.1, Nat.le_refl]) ⟨?_, rfl⟩
        rw [dg2, if_neg (by omega), dgv_big _ _ hy]; rfl
  · have d0 := decode_big [x, y] 0 (by simp) hx
    have e4 : plc ((Utf8.decode ⟨#[x, y]⟩ 0).1 : Int) (effs.take bs) 0 = -1 := plc_big _ _ d0
    simp only [e4, go_sem, Nat.reduceLT, Int.reduceLT, Int.reduceNeg]
    refine ends_popped rfl (by simp only [popOk_new, hS.2, Nat.le_refl]) (by simp only [pop_new, pop_self hS.1, Nat.le_refl]) ⟨?_, rfl⟩
    rw [dg2, dgv_big _ _ hx]; rfl
def noteA : Option Nat → List AV
  | some n => [i64 n, i64 0]
  | none => [i64 0, i64 10]
theorem wc119 (l : List UInt8) (S : St) : WC Tryz.prog 119 [.c (.str l)] (Is (.tup (noteA (noteV l))) S) S := by
  refine wc_fn (fn := Tryz.f119) (N := 38) (rs := [.tmp 2, .tmp 3]) (by rfl) (by kernel_rfl) (by rfl) (by rfl) (by rfl) (by rfl) fun hS => ?_
  by_cases h3 : l.length = 3
  · match l, h3 with
    | [a, b, c], _ =>
    simp only [beq_self_eq_true, List.getElem?_cons_succ, ge_iff_le, go_sem, ne_up1, ne_up2, ne_up3, ne_up6, Int.cast_ofNat_Int, Nat.reduceAdd, Nat.reduceEqDiff, Nat.reduceLT, Int.reduceLT, Int.reduceToNat]
    by_cases hc : 48 ≤ c.toNat ∧ c.toNat ≤ 57
    · have c1 : (48 : Int) ≤ (c.toNat : Int) := by omega
      have c2 : (c.toNat : Int) ≤ 57 := by omega
      simp only [c1, c2, go_sem, ne_up1, ne_up2, ne_up3, ne_up6, Nat.reduceEqDiff, Nat.reduceLT, Int.reduceLT, Int.reduceToNat]
      with_reducible refine wc_is (wc110 _) ?_
      simp only [go_sem, Nat.reduceLT]
      have nl : nameList.length = 12 := rfl
      refine wloop_meas (fun n e S' => ∃ i : Nat, S' = S ∧ n = 12 - i ∧ i ≤ 12 ∧ e.get 0 = .c (.str [a, b, c]) ∧ e.get 19 = .c (.sl (nameList.map .str)) ∧ e.get 20 = i64 12 ∧ e.get 21 = i64 i ∧
        findN [a, b] (nameList.drop i) i = findN [a, b] nameList 0) ?_ 12 _ _ ?_
      · rintro n e S' ⟨i, rfl, rfl, hi, g0, g19, g20, g21, hp⟩
        rcases Nat.lt_or_ge i 12 with hlt | hge
        · have h1 : ((i : Int) < 12) := by omega
          have h2 : ¬ ((i : Int) < 0) := by omega
          have h4 : allSize 1 (nameList.map FV.str) = true := allSize_strs _
          have hd : nameList.drop i = nameList.getD i [] :: nameList.drop (i + 1) := by
            rw [List.drop_eq_getElem_cons (by rw [nl]; exact hlt)]
            simp [List.getD, nl, hlt]
          by_cases he : nameList.getD i [] = [a, b]
          · simp only [g0, g19, g20, g21, h1, h2, h4, hlt, Int.toNat_natCast, names_get i hlt, nl, he, beq_self_eq_true, go_sem, ne_up1, ne_up2, ne_up3, ne_up4, ne_up5, Nat.reduceAdd, Nat.reduceEqDiff, Nat.reduceLT, Nat.reduceLeDiff, Int.reduceLT, Int.reduceLE, Int.reduceToNat]
            have w1 : IntKind.u8.wrap ((c.toNat : Int) - 48) = (c.toNat : Int) - 48 := wrap_u8 _ (by omega) (by omega)
            have w2 : IntKind.i64.wrap ((c.toNat : Int) - 48) = (c.toNat : Int) - 48 := wrap_i64 _ (by omega) (by omega)
            have w3 : IntKind.i64.wrap (12 * ((c.toNat : Int) - 48)) = 12 * ((c.toNat : Int) - 48) := wrap_i64 _ (by omega) (by omega)
            have w4 : IntKind.i64.wrap (12 * ((c.toNat : Int) - 48) + i) = 12 * ((c.toNat : Int) - 48) + i := wrap_i64 _ (by omega) (by omega)
            simp only [w1, w2, w3, w4, go_sem]
            refine ends_now ⟨?_, rfl⟩
            have : findN [a, b] nameList 0 = some i := by rw [← hp, hd, findN, if_pos he]
            rw [noteV, if_pos hc, this]
            simp only [Option.map_some, noteA]
            congr 5
            omega
          · have he' : (nameList.getD i [] == [a, b]) = false := by simpa using he
            have w5 : IntKind.i64.wrap ((i : Int) + 1) = ((i + 1 : Nat) : Int) := by
              rw [wrap_i64 _ (by omega) (by omega)]; rfl
            simp only [g0, g19, g20, g21, h1, h2, h4, hlt, Int.toNat_natCast, names_get i hlt, nl, he', w5, go_sem, ne_up1, ne_up2, ne_up3, ne_up4, ne_up5, ne_up6, Nat.reduceAdd, Nat.reduceEqDiff, Nat.reduceLT, Nat.reduceLeDiff, Int.reduceLE, Int.reduceToNat]
            refine ⟨12 - (i + 1), by omega, i + 1, rfl, by omega, rfl, ?_⟩
            rw [← hp, hd, findN, if_neg he]
        · have h1 : ¬ ((i : Int) < 12) := by omega
          simp only [g20, g21, h1, go_sem, ne_up1, Nat.reduceLT]
          refine ends_now ⟨?_, rfl⟩
          have : findN [a, b] nameList 0 = none := by rw [← hp, List.drop_eq_nil_of_le (by rw [nl]; exact hge)]; rfl
          rw [noteV, if_pos hc, this]; rfl
      · exact ⟨0, rfl, rfl, by omega, by simp only [go_sem, ne_up2, ne_up3, ne_up6, Nat.reduceEqDiff], by simp only [go_sem, ne_up1, ne_up2], by simp only [nl, go_sem, ne_up1, Int.cast_ofNat_Int], by simp only [go_sem, Int.cast_ofNat_Int], rfl⟩
    · have : ¬ ((48 : Int) ≤ (c.toNat : Int) ∧ (c.toNat : Int) ≤ 57) := by omega
      rw [show noteV [a, b, c] = none by rw [noteV, if_neg hc]]
      by_cases c1 : (48 : Int) ≤ (c.toNat : Int)
      · have c2 : ¬ (c.toNat : Int) ≤ 57 := fun h => this ⟨c1, h⟩
        simp only [c1, c2, go_sem, ne_up1, ne_up2, ne_up3, ne_up6, Nat.reduceEqDiff, Nat.reduceLT, Int.reduceLT, Int.reduceToNat]
        exact ends_now ⟨rfl, rfl⟩
      · simp only [c1, go_sem, ne_up1, ne_up2, ne_up3, Nat.reduceLT]
        exact ends_now ⟨rfl, rfl⟩
  · have h4 : ((l.length : Int) == 3) = false := by simp; omega
    simp only [h4, go_sem, ne_up1, ne_up2, ne_up3, Nat.reduceAdd, Nat.reduceLT]
    refine ends_now ⟨?_, rfl⟩
    match l, h3 with
    | [], _ => rfl
    | [_], _ => rfl
    | [_, _], _ => rfl
    | [_, _, _], h3 => exact absurd rfl h3
    | _ :: _ :: _ :: _ :: _, _ => rfl
end Go.Proofs.YtgjnimemofmncaaGreatDoor

namespace Go.Proofs.YtgjnimemofmncaaGreatDoor
open Go.Abs Go.Tx
set_option maxHeartbeats 1000000
set_option maxRecDepth 20000
theorem wc118 (S : St) : WC Tryz.prog 118 [] (Is (.tup [.c (cellFV 0 0 0 0 0 0), i64 2]) S) S := by
  refine wc_fn (fn := Tryz.f118) (N := 3) (rs := [.cell 0 90, .tmp 1]) (by rfl) (by kernel_rfl) (by rfl) (by rfl) (by rfl) (by rfl) fun hS => ?_
  simp only [go_sem, put_new, ne_up1, ne_up2, Nat.reduceAdd, Nat.reduceLT, Nat.reduceLeDiff]
  exact ends_popped rfl (by simp only [popOk_new, hS.2, Nat.le_refl]) (by simp only [pop_new, pop_self hS.1, Nat.le_refl]) ⟨rfl, rfl⟩
def cellA : Option (Int × Int × Int × Int × Int × Int) → List AV
  | some (a, b, c, d, e, f) => [.c (cellFV a b c d e f), i64 0]
  | none => [.c (cellFV 0 0 0 0 0 0), i64 2]
theorem plc_index (c : UInt8) : ∀ (l : List UInt8) (i : Nat), plc (c.toNat : Int) l i = (if Go.Lib.indexByte l c < 0 then -1 else Go.Lib.indexByte l c + i)
  | [], i => rfl
  | x :: r, i => by
    have ih := plc_index c r (i + 1)
    have hg := Go.Lib.indexByte_ge r c
    simp only [plc, Go.Lib.indexByte]
    by_cases hx : x = c
    · subst hx; simp
    · have h1 : ¬ ((x.toNat : Int) = (c.toNat : Int)) := fun h => hx (UInt8.toNat_inj.1 (by omega))
      have h2 : (x == c) = false := by simpa using hx
      simp only [if_neg h1, ih, h2, Bool.false_eq_true, if_false]
      by_cases h3 : Go.Lib.indexByte r c = -1
      · simp [h3]
      · have h4 : (Go.Lib.indexByte r c == -1) = false := by simpa using h3
        simp only [h4, Bool.false_eq_true, if_false]
        rw [if_neg (by omega), if_neg (by omega)]
        omega
theorem wc121' (s : List UInt8) (c : UInt8) (S : St) : WC Tryz.prog 121 [.c (.str s), .c (.int .u8 c.toNat)] (Is (i64 (plc (c.toNat : Int) s 0)) S) S := by
  have h := wc121 s (c.toNat : Int) S
  have e1 : ((c.toNat : Int)).toNat.toUInt8 = c := by simp
  rw [e1] at h
  have e2 : plc (c.toNat : Int) s 0 = Go.Lib.indexByte s c := by
    have := Go.Lib.indexByte_ge s c
    rw [plc_index]
    split <;> omega
  rw [e2]
  exact h
def nN : Option Nat → Int
  | some n => n
  | none => 0
def nE : Option Nat → Int
  | some _ => 0
  | none => 10
theorem noteA_eq (v : Option Nat) : noteA v = [i64 (nN v), i64 (nE v)] := by cases v <;> rfl
def pM (S : St) (n b c d e f : Int) (inst vol eff : List UInt8) (e' : Env) (S' : St) : Prop :=
  Fwd S S' ∧ S.next + 1 < S'.next ∧ S'.get S.next = some (.blk [i64 0, i64 0, i64 0, i64 0, i64 0, i64 0] 0 90) ∧ S'.get (S.next + 1) = some (.blk [i64 n, i64 b, i64 c, i64 d, i64 e, i64 f] 0 90) ∧
    e'.get 2 = .ref S.next 0 ∧ e'.get 4 = .c (.fn 118) ∧ e'.get 5 = .ref (S.next + 1) 0 ∧ e'.get 7 = .c (.str inst) ∧ e'.get 8 = .c (.str vol) ∧ e'.get 9 = .c (.str eff)
def markT : Nat → List UInt8
  | 0 => [46, 46, 46]
  | 1 => [61, 61, 61]
  | 2 => [94, 94, 94]
  | _ => [126, 126, 126]
def markK : Nat → Int
  | 0 => 0
  | 1 => 255
  | 2 => 254
  | _ => 253
theorem mark_at {p : FV × AV × Nat} {seen : List Nat} (h : p ∈ Abs.leftOf seen markMap [0, 1, 2, 3]) : p.2.2 < 4 ∧ p.1 = .int .i64 (markK p.2.2) ∧ p.2.1 = .c (.str (markT p.2.2)) := by
  obtain ⟨x, y, z⟩ := p
  obtain ⟨i, h1, h2, _⟩ := leftOf_mem h
  match i, h1, h2 with
  | 0, h1, h2 => cases h1; cases h2; exact ⟨by decide, rfl, rfl⟩
  | 1, h1, h2 => cases h1; cases h2; exact ⟨by decide, rfl, rfl⟩
  | 2, h1, h2 => cases h1; cases h2; exact ⟨by decide, rfl, rfl⟩
  | 3, h1, h2 => cases h1; cases h2; exact ⟨by decide, rfl, rfl⟩
  | i + 4, h1, h2 => simp [markMap] at h1
theorem dg2_bound (bs : Nat) (hb : bs ≤ 36) (x y : UInt8) : -1 ≤ dg2 bs x y ∧ dg2 bs x y ≤ 36 * 37 := by
  have h1 := dgv_bound bs hb x
  have h2 := dgv_bound bs hb y
  unfold dg2
  split
  · omega
  · split
    · omega
    · have : dgv bs x * bs ≤ 36 * bs := Int.mul_le_mul_of_nonneg_right (by omega) (by omega)
      have h3 : 0 ≤ dgv bs x * bs := Int.mul_nonneg (by omega) (by omega)
      omega
theorem u8_ne (x y : UInt8) : ((x.toNat : Int) != (y.toNat : Int)) = !decide (x = y) := by
  by_cases h : x = y
  · subst h; simp
  · have : ¬ ((x.toNat : Int) = (y.toNat : Int)) := fun e => h (UInt8.toNat_inj.1 (by omega))
    simp [h, this]
theorem mark_ent {m : Nat} (h : m < 4) : entOf m markMap [0, 1, 2, 3] = some (.int .i64 (markK m), .c (.str (markT m))) := by
  match m, h with
  | 0, _ => rfl
  | 1, _ => rfl
  | 2, _ => rfl
  | 3, _ => rfl
theorem pNote_mark {l : List UInt8} (hn : noteV l = none) {m : Nat} (hm : m < 4) (h : l = markT m) : pNote l = some (markK m) := by
  subst h
  unfold pNote
  rw [hn]
  match m, hm with
  | 0, _ => rfl
  | 1, _ => rfl
  | 2, _ => rfl
  | 3, _ => rfl
theorem pNote_none {l : List UInt8} (hn : noteV l = none) (h : ∀ m, m < 4 → l ≠ markT m) : pNote l = none := by
  unfold pNote
  rw [hn]
  have h0 := h 0 (by decide)
  have h1 := h 1 (by decide)
  have h2 := h 2 (by decide)
  have h3 := h 3 (by decide)
  simp only [markT] at h0 h1 h2 h3
  simp [h0, h1, h2, h3]
def pL (S : St) (l inst vol eff : List UInt8) (n : Nat) (e' : Env) (S' : St) : Prop :=
  ∃ (seen : List Nat) (k0 : Int) (fnd : Bool), n = (Abs.leftOf seen markMap [0, 1, 2, 3]).length ∧ Fwd S S' ∧ S.next + 3 < S'.next ∧ S'.get S.next = some (.blk [i64 0, i64 0, i64 0, i64 0, i64 0, i64 0] 0 90) ∧
    S'.get (S.next + 1) = some (.blk [i64 k0, i64 0, i64 0, i64 0, i64 0, i64 0] 0 90) ∧ S'.get (S.next + 2) = some (.map markMap [0, 1, 2, 3] 4) ∧ S'.get (S.next + 3) = some (.miter (S.next + 2) 4 seen) ∧
    e'.get 2 = .ref S.next 0 ∧ e'.get 4 = .c (.fn 118) ∧ e'.get 5 = .ref (S.next + 1) 0 ∧ e'.get 6 = .c (.str l) ∧ e'.get 7 = .c (.str inst) ∧ e'.get 8 = .c (.str vol) ∧ e'.get 9 = .c (.str eff) ∧
    e'.get 12 = .c (.bool fnd) ∧ e'.get 56 = .iter (S.next + 3) ∧ (fnd = true → pNote l = some k0) ∧ (fnd = false → k0 = 0 ∧ ∀ m, m < 4 → seen.contains m = true → l ≠ markT m)
theorem wc79 (l : List UInt8) (S : St) : WC Tryz.prog 79 [.c (.str l)] (Is (.tup (cellA (parseP l))) S) S := by
  refine wc_fn (fn := Tryz.f79) (N := 140) (rs := [.cell 2 90, .tmp 3]) (by rfl) (by kernel_rfl) (by rfl) (by rfl) (by rfl) (by rfl) fun hS => ?_
  by_cases h14 : l.length = 14
  · match l, h14 with
    | [a, b, c, s1, d, e, s2, f, g, h, s3, i, j, k], _ =>
    by_cases hs : s1 = 32 ∧ s2 = 32 ∧ s3 = 32
    · obtain ⟨rfl, rfl, rfl⟩ := hs
      rw [show parseP [a, b, c, 32, d, e, 32, f, g, h, 32, i, j, k] = pAll (pNote [a, b, c]) (pInst d e) (pVol f g h) (pEff i j k) from rfl]
      simp only [bne_self_eq_false, UInt8.toNat_ofNat, Nat.reduceMod, Nat.reducePow, go_sem, ne_up1, ne_up2, ne_up3, ne_up4, Int.cast_ofNat_Int, Nat.reduceAdd, Nat.reduceEqDiff, Nat.reduceLT, Nat.reduceMod, Int.reduceLT, Int.reduceToNat]
      refine wdraw_plan ch79x5 pp79x5 (by kernel_rfl) (by kernel_rfl) (by kernel_rfl) ?_
      simp only [go_sem, ne_up1, ne_up2, ne_up3, ne_up4, ne_up5, ne_up6, Nat.reduceAdd, Nat.reduceEqDiff, Nat.reduceLT, Nat.reduceLeDiff, Int.reduceLE, Int.reduceToNat]
      with_reducible refine wc_is (wc119 _ _) ?_
      simp only [noteA_eq, go_sem, ne_up1, ne_up3, Nat.reduceEqDiff, Nat.reduceLT]
      refine condK_cut (fun e' S' => ∃ n, pNote [a, b, c] = some n ∧ pM S n 0 0 0 0 0 [d, e] [f, g, h] [i, j, k] e' S') ?_ ?_
      · have hF : Fwd S ((S.new (.blk [i64 0, i64 0, i64 0, i64 0, i64 0, i64 0] 0 90)).new (.blk [i64 0, i64 0, i64 0, i64 0, i64 0, i64 0] 0 90)) := ((Fwd.refl hS).new _).new _
        cases hn : noteV [a, b, c] with
        | some n =>
          have hlt := (name_noteV hn).1
          have w1 : IntKind.i64.wrap ((n : Int) + 1) = (n : Int) + 1 := wrap_i64 _ (by omega) (by omega)
          simp only [nE, nN, beq_self_eq_true, w1, go_sem, ne_up1, ne_dn1, ne_up2, ne_up3, ne_up4, ne_up5, ne_up6, Nat.reduceAdd, Nat.reduceEqDiff, Nat.reduceLT, Nat.reduceLeDiff]
          refine ⟨(n : Int) + 1, by simp [pNote, hn], hF.put (Nat.le_succ _) _, ?_⟩
          simp only [Nat.lt_succ_self, Nat.add_assoc, go_sem, ne_up1, ne_dn1, ne_up2, ne_up3, ne_up4, ne_up5, ne_up6, Nat.reduceAdd, Nat.reduceEqDiff]
        | none =>
          simp only [nE, nN, go_sem, Nat.reduceLT, Int.reduceBEq]
          with_reducible refine wc_is (wc70 _) ?_
          simp only [go_sem, ne_dn1, ne_dn2, Nat.reduceLT]
          refine wloop_meas (pL S [a, b, c] [d, e] [f, g, h] [i, j, k]) ?_ 4 _ _ ?_
          · rintro n e' S' ⟨seen, k0, fnd, rfl, hF', hN, z0, z1, z2, z3, g2, g4, g5, g6, g7, g8, g9, g12, g56, hf1, hf2⟩
            have ha : ([0, 1, 2, 3].all fun n => Nat.blt n 4) = true := rfl
            simp only [g56, z3, z2, go_sem, Nat.reduceLT]
            refine resK_next (fun hl => ?_) (fun p hp => ?_)
            · have hall := leftOf_nil hl rfl
              cases fnd with
              | true =>
                simp only [g12, go_sem, Nat.reduceEqDiff, Nat.reduceLT]
                exact ⟨k0, hf1 rfl, hF', by omega, z0, z1, g2, g4, g5, g7, g8, g9⟩
              | false =>
                simp only [g12, g4, go_sem, Nat.reduceEqDiff, Nat.reduceLT]
                with_reducible refine wc_is (wc118 _) ?_
                simp only [g2, z0, go_sem, ne_up1, Nat.reduceAdd, Nat.reduceEqDiff, Nat.reduceLT, Nat.reduceLeDiff]
                refine ends_fwd (hF'.put (Nat.le_refl _) _) rfl ⟨?_, rfl⟩
                rw [pNote_none hn fun m hm => (hf2 rfl).2 m hm (hall m (by match m, hm with | 0, _ | 1, _ | 2, _ | 3, _ => simp))]
                rfl
            · obtain ⟨hp1, hp2, hp3⟩ := mark_at hp
              have hlt := leftOf_lt hp
              have hput : Fwd S (S'.put (S.next + 3) (.miter (S.next + 2) 4 (seen ++ [p.2.2]))) := hF'.put (by omega) _
              have gl : (seen ++ [p.2.2]).getLast? = some p.2.2 := by simp
              have he : entOf p.2.2 markMap [0, 1, 2, 3] = some (.int .i64 (markK p.2.2), .c (.str (markT p.2.2))) := mark_ent hp1
              by_cases hm : [a, b, c] = markT p.2.2
              · have hb : (markT p.2.2 == [a, b, c]) = true := by simp [hm]
                simp only [g56, z1, z2, z3, gl, he, hb, g5, g6, go_sem, ne_up1, ne_up2, Nat.reduceAdd, Nat.reduceEqDiff, Nat.reduceLT, Nat.reduceLeDiff]
                refine ⟨_, hlt, seen ++ [p.2.2], markK p.2.2, true, rfl, hput.put (by omega) _, ?_⟩
                simp only [g56, z0, z1, z2, z3, g2, g4, g5, g6, g7, g8, g9, hN, go_sem, ne_up1, ne_dn1, ne_up2, ne_dn2, ne_up3, ne_up4, ne_up5, ne_up6, Nat.reduceEqDiff]
                exact pNote_mark hn hp1 hm
              · have hb : (markT p.2.2 == [a, b, c]) = false := by
                  simp only [beq_eq_false_iff_ne]
                  exact fun h => hm h.symm
                simp only [g56, z2, z3, gl, he, hb, g6, go_sem, ne_up1, ne_up2, Nat.reduceEqDiff, Nat.reduceLT]
                refine ⟨_, hlt, seen ++ [p.2.2], k0, fnd, rfl, hput, ?_⟩
                simp only [g56, z0, z1, z2, z3, g2, g4, g5, g6, g7, g8, g9, g12, hN, go_sem, ne_up1, ne_up2, ne_up3, ne_up4, ne_up5, ne_up6, Nat.reduceEqDiff]
                refine ⟨hf1, fun hf => ⟨(hf2 hf).1, fun m hm4 hc => ?_⟩⟩
                simp only [List.contains_eq_mem, List.mem_append, List.mem_singleton, decide_eq_true_eq] at hc
                rcases hc with hc | rfl
                · exact (hf2 hf).2 m hm4 (by simpa using hc)
                · exact hm
          · refine ⟨[], 0, false, rfl, (hF.new _).new _, ?_⟩
            simp only [Nat.add_assoc, Nat.lt_succ_self, go_sem, ne_up1, ne_dn1, ne_up2, ne_dn2, ne_up3, ne_dn3, ne_up4, ne_up5, ne_up6, Nat.reduceAdd, Nat.reduceEqDiff]
            simp
      rintro e' T ⟨n, hn, hF, hN, z0, z1, g2, g4, g5, g7, g8, g9⟩
      rw [hn]
      simp only [g7, go_sem, Nat.reduceLT]
      refine condK_cut (fun e' S' => ∃ b, pInst d e = some b ∧ pM S n b 0 0 0 0 [d, e] [f, g, h] [i, j, k] e' S') ?_ ?_
      · by_cases hd : d = 46 ∧ e = 46
        · obtain ⟨rfl, rfl⟩ := hd
          simp only [bne_self_eq_false, go_sem]
          exact ⟨0, rfl, hF, hN, z0, z1, g2, g4, g5, g7, g8, g9⟩
        · have hb : ([d, e] != [46, 46]) = true := by simp; exact fun h1 h2 => hd ⟨h1, h2⟩
          have hdv := dg2_bound 10 (by decide) d e
          have hpi : pInst d e = if dg2 10 d e < 1 then none else some (dg2 10 d e) := by rw [pInst, if_neg hd]
          simp only [hb, g7, go_sem, Nat.reduceEqDiff, Nat.reduceLT]
          with_reducible refine wc_is (wc120 d e 10 (by decide) (by decide) _) ?_
          have hF' : Fwd S (T.put (S.next + 1) (.blk [i64 n, i64 (dg2 10 d e), i64 0, i64 0, i64 0, i64 0] 0 90)) := hF.put (Nat.le_succ _) _
          by_cases hlt : dg2 10 d e < 1
          · simp only [g5, z1, hlt, g4, go_sem, ne_up1, Nat.reduceAdd, Nat.reduceEqDiff, Nat.reduceLT, Nat.reduceLeDiff]
            with_reducible refine wc_is (wc118 _) ?_
            simp only [g2, z0, go_sem, ne_up1, Nat.reduceAdd, Nat.reduceEqDiff, Nat.reduceLT, Nat.reduceLeDiff]
            refine ends_fwd (hF'.put (Nat.le_refl _) _) rfl ⟨?_, rfl⟩
            rw [hpi, if_pos hlt]
            rfl
          · simp only [g5, z1, hlt, go_sem, ne_up1, Nat.reduceAdd, Nat.reduceEqDiff, Nat.reduceLT, Nat.reduceLeDiff]
            exact ⟨_, by rw [hpi, if_neg hlt], hF', by simp only [hN, go_sem], by simp only [z0, go_sem, ne_up1], by simp only [go_sem], g2, g4, g5, g7, g8, g9⟩
      clear hF hN z0 z1 g2 g4 g5 g7 g8 g9
      rintro e' T ⟨b, hpb, hF, hN, z0, z1, g2, g4, g5, g7, g8, g9⟩
      rw [hpb]
      simp only [g8, go_sem, Nat.reduceLT]
      refine condK_cut (fun e' S' => ∃ c d', pVol f g h = some (c, d') ∧ pM S n b c d' 0 0 [d, e] [f, g, h] [i, j, k] e' S') ?_ ?_
      · by_cases hd : f = 46 ∧ g = 46 ∧ h = 46
        · obtain ⟨rfl, rfl, rfl⟩ := hd
          simp only [bne_self_eq_false, go_sem]
          exact ⟨0, 0, rfl, hF, hN, z0, z1, g2, g4, g5, g7, g8, g9⟩
        · have hb : ([f, g, h] != [46, 46, 46]) = true := by simp; exact fun h1 h2 h3 => hd ⟨h1, h2, h3⟩
          have hdv := dg2_bound 10 (by decide) g h
          have hpi : pVol f g h = if (f.toNat : Int) - 97 + 1 < 1 ∨ dg2 10 g h < 0 then none else some ((f.toNat : Int) - 97 + 1, dg2 10 g h) := by rw [pVol, if_neg hd]
          have hft : (f.toNat : Int) < 256 := by have := f.toNat_lt; omega
          simp only [hb, go_sem]
          refine wdraw_plan ch79x22 pp79x22 (by kernel_rfl) (by kernel_rfl) (by kernel_rfl) ?_
          have w1 : IntKind.i64.wrap (f.toNat : Int) = f.toNat := wrap_i64 _ (by omega) (by omega)
          have w2 : IntKind.i64.wrap ((f.toNat : Int) - 97) = (f.toNat : Int) - 97 := wrap_i64 _ (by omega) (by omega)
          have w3 : IntKind.i64.wrap ((f.toNat : Int) - 97 + 1) = (f.toNat : Int) - 97 + 1 := wrap_i64 _ (by omega) (by omega)
          simp only [g8, w1, w2, w3, go_sem, Nat.reduceAdd, Nat.reduceEqDiff, Nat.reduceLT, Nat.reduceLeDiff, Int.reduceLT, Int.reduceLE, Int.reduceToNat]
          refine ⟨_, wc120 g h 10 (by decide) (by decide) _, ?_⟩
          simp only [g5, z1, go_sem, put_put, ne_up1, ne_up2, ne_up3, ne_up4, Option.some.injEq, Nat.reduceAdd, Nat.reduceEqDiff, Nat.reduceLT, Nat.reduceLeDiff, Int.reduceLT, Int.reduceLE, Int.reduceToNat]
          have hF' : Fwd S ((T.put (S.next + 1) (.blk [i64 n, i64 b, i64 ((f.toNat : Int) - 97 + 1), i64 0, i64 0, i64 0] 0 90)).put (S.next + 1) (.blk [i64 n, i64 b, i64 ((f.toNat : Int) - 97 + 1), i64 (dg2 10 g h), i64 0, i64 0] 0 90)) :=
            (hF.put (Nat.le_succ _) _).put (Nat.le_succ _) _
          rw [put_put] at hF'
          by_cases hc1 : (f.toNat : Int) - 97 + 1 < 1
          · simp only [hc1, g4, go_sem, ne_up1, ne_up2, ne_up3, Nat.reduceEqDiff, Nat.reduceLT]
            with_reducible refine wc_is (wc118 _) ?_
            simp only [g2, z0, go_sem, ne_up1, Nat.reduceAdd, Nat.reduceEqDiff, Nat.reduceLT, Nat.reduceLeDiff]
            refine ends_fwd (hF'.put (Nat.le_refl _) _) rfl ⟨?_, rfl⟩
            rw [hpi, if_pos (.inl hc1)]
            rfl
          · by_cases hc2 : dg2 10 g h < 0
            · simp only [hc1, hc2, g4, g5, go_sem, ne_up1, ne_up2, ne_up3, Nat.reduceAdd, Nat.reduceEqDiff, Nat.reduceLT]
              with_reducible refine wc_is (wc118 _) ?_
              simp only [g2, z0, go_sem, ne_up1, Nat.reduceAdd, Nat.reduceEqDiff, Nat.reduceLT, Nat.reduceLeDiff]
              refine ends_fwd (hF'.put (Nat.le_refl _) _) rfl ⟨?_, rfl⟩
              rw [hpi, if_pos (.inr hc2)]
              rfl
            · simp only [hc1, hc2, g5, go_sem, ne_up1, ne_up2, ne_up3, Nat.reduceAdd, Nat.reduceEqDiff, Nat.reduceLT]
              exact ⟨_, _, by rw [hpi, if_neg (by omega)], hF', by simp only [hN, go_sem], by simp only [z0, go_sem, ne_up1], by simp only [go_sem], g2, g4, g5, g7, g8, g9⟩
      clear hF hN z0 z1 g2 g4 g5 g7 g8 g9
      rintro e' T ⟨c', d', hpv, hF, hN, z0, z1, g2, g4, g5, g7, g8, g9⟩
      rw [hpv]
      simp only [g9, go_sem, Nat.reduceLT]
      refine condK_cut (fun e' S' => ∃ x y, pEff i j k = some (x, y) ∧ pM S n b c' d' x y [d, e] [f, g, h] [i, j, k] e' S') ?_ ?_
      · by_cases hd : i = 46 ∧ j = 46 ∧ k = 46
        · obtain ⟨rfl, rfl, rfl⟩ := hd
          simp only [bne_self_eq_false, go_sem]
          exact ⟨0, 0, rfl, hF, hN, z0, z1, g2, g4, g5, g7, g8, g9⟩
        · have hb : ([i, j, k] != [46, 46, 46]) = true := by simp; exact fun h1 h2 h3 => hd ⟨h1, h2, h3⟩
          have hdv := dg2_bound 16 (by decide) j k
          have hpi : pEff i j k = if plc (i.toNat : Int) effs 0 + 1 < 1 ∨ dg2 16 j k < 0 then none else some (plc (i.toNat : Int) effs 0 + 1, dg2 16 j k) := by rw [pEff, if_neg hd]
          have hpl : -1 ≤ plc (i.toNat : Int) effs 0 ∧ plc (i.toNat : Int) effs 0 < 36 := by
            rcases plc_bound (i.toNat : Int) effs 0 with h | ⟨k', h1, h2⟩
            · omega
            · rw [effs_len] at h2; omega
          simp only [hb, go_sem]
          refine wdraw_plan ch79x26 pp79x26 (by kernel_rfl) (by kernel_rfl) (by kernel_rfl) ?_
          have w1 : IntKind.i64.wrap (plc (i.toNat : Int) effs 0 + 1) = plc (i.toNat : Int) effs 0 + 1 := wrap_i64 _ (by omega) (by omega)
          simp only [g9, go_sem, Nat.reduceEqDiff, Nat.reduceLT, Int.reduceLT, Int.reduceToNat]
          refine ⟨_, wc121' effs i _, ?_⟩
          simp only [g9, w1, go_sem, Nat.reduceAdd, Nat.reduceEqDiff, Nat.reduceLT, Nat.reduceLeDiff, Int.reduceLE, Int.reduceToNat]
          refine ⟨_, wc120 j k 16 (by decide) (by decide) _, ?_⟩
          simp only [g5, z1, go_sem, put_put, ne_up1, ne_up2, ne_up3, ne_up4, Option.some.injEq, Nat.reduceAdd, Nat.reduceEqDiff, Nat.reduceLT, Nat.reduceLeDiff, Int.reduceLT, Int.reduceLE, Int.reduceToNat]
          have hF' : Fwd S (T.put (S.next + 1) (.blk [i64 n, i64 b, i64 c', i64 d', i64 (plc (i.toNat : Int) effs 0 + 1), i64 (dg2 16 j k)] 0 90)) :=
            (hF.put (Nat.le_succ _) _)
          by_cases hc1 : plc (i.toNat : Int) effs 0 + 1 < 1
          · simp only [hc1, g4, go_sem, ne_up1, ne_up2, ne_up3, Nat.reduceEqDiff, Nat.reduceLT]
            with_reducible refine wc_is (wc118 _) ?_
            simp only [g2, z0, go_sem, ne_up1, Nat.reduceAdd, Nat.reduceEqDiff, Nat.reduceLT, Nat.reduceLeDiff]
            refine ends_fwd (hF'.put (Nat.le_refl _) _) rfl ⟨?_, rfl⟩
            rw [hpi, if_pos (.inl hc1)]
            rfl
          · by_cases hc2 : dg2 16 j k < 0
            · simp only [hc1, hc2, g4, g5, go_sem, ne_up1, ne_up2, ne_up3, Nat.reduceAdd, Nat.reduceEqDiff, Nat.reduceLT]
              with_reducible refine wc_is (wc118 _) ?_
              simp only [g2, z0, go_sem, ne_up1, Nat.reduceAdd, Nat.reduceEqDiff, Nat.reduceLT, Nat.reduceLeDiff]
              refine ends_fwd (hF'.put (Nat.le_refl _) _) rfl ⟨?_, rfl⟩
              rw [hpi, if_pos (.inr hc2)]
              rfl
            · simp only [hc1, hc2, g5, go_sem, ne_up1, ne_up2, ne_up3, Nat.reduceAdd, Nat.reduceEqDiff, Nat.reduceLT]
              exact ⟨_, _, by rw [hpi, if_neg (by omega)], hF', by simp only [hN, go_sem], by simp only [z0, go_sem, ne_up1], by simp only [go_sem], g2, g4, g5, g7, g8, g9⟩
      clear hF hN z0 z1 g2 g4 g5 g7 g8 g9
      rintro e' T ⟨x, y, hpe, hF, hN, z0, z1, g2, g4, g5, g7, g8, g9⟩
      rw [hpe]
      simp only [g5, z1, go_sem, Nat.reduceAdd, Nat.reduceLT, Nat.reduceLeDiff]
      with_reducible refine wc_is (wc69 n b c' d' x y _) ?_
      cases hv : validC n b c' d' x y with
      | false =>
        simp only [g4, go_sem, Nat.reduceEqDiff, Nat.reduceLT]
        with_reducible refine wc_is (wc118 _) ?_
        simp only [g2, z0, go_sem, ne_up1, Nat.reduceAdd, Nat.reduceEqDiff, Nat.reduceLT, Nat.reduceLeDiff]
        refine ends_fwd (hF.put (Nat.le_refl _) _) rfl ⟨?_, rfl⟩
        simp [pAll, hv, cellA]
      | true =>
        simp only [g5, g2, z0, z1, go_sem, ne_up1, Nat.reduceAdd, Nat.reduceEqDiff, Nat.reduceLT, Nat.reduceLeDiff]
        refine ends_fwd (hF.put (Nat.le_refl _) _) rfl ⟨?_, rfl⟩
        simp [pAll, hv, cellA]
    · have hp : parseP [a, b, c, s1, d, e, s2, f, g, h, s3, i, j, k] = none := by rw [parseP, if_neg hs]
      rw [hp]
      have kk : ∀ s : UInt8, ¬ s = 32 → ((s.toNat : Int) != 32) = true := fun s h => by
        have := u8_ne s 32
        rw [decide_eq_false h] at this
        exact this
      by_cases h1 : s1 = 32
      · subst h1
        by_cases h2 : s2 = 32
        · subst h2
          have h3 : ¬ s3 = 32 := fun h => hs ⟨rfl, rfl, h⟩
          have k3 := kk s3 h3
          simp only [bne_self_eq_false, UInt8.toNat_ofNat, Nat.reduceMod, Nat.reducePow, k3, go_sem, ne_up1, ne_up2, ne_up3, ne_up4, Int.cast_ofNat_Int, Nat.reduceAdd, Nat.reduceEqDiff, Nat.reduceLT, Nat.reduceMod, Int.reduceLT, Int.reduceToNat]
          with_reducible refine wc_is (wc118 _) ?_
          simp only [go_sem, put_new, ne_up1, ne_up2, Nat.reduceAdd, Nat.reduceEqDiff, Nat.reduceLT, Nat.reduceLeDiff]
          exact ends_popped rfl (by simp only [popOk_new, hS.2, Nat.le_refl]) (by simp only [pop_new, pop_self hS.1, Nat.le_refl]) ⟨rfl, rfl⟩
        · have k2 := kk s2 h2
          simp only [bne_self_eq_false, UInt8.toNat_ofNat, Nat.reduceMod, Nat.reducePow, k2, go_sem, ne_up1, ne_up2, ne_up3, ne_up4, Int.cast_ofNat_Int, Nat.reduceAdd, Nat.reduceEqDiff, Nat.reduceLT, Nat.reduceMod, Int.reduceLT, Int.reduceToNat]
          with_reducible refine wc_is (wc118 _) ?_
          simp only [go_sem, put_new, ne_up1, ne_up2, Nat.reduceAdd, Nat.reduceEqDiff, Nat.reduceLT, Nat.reduceLeDiff]
          exact ends_popped rfl (by simp only [popOk_new, hS.2, Nat.le_refl]) (by simp only [pop_new, pop_self hS.1, Nat.le_refl]) ⟨rfl, rfl⟩
      · have k1 := kk s1 h1
        simp only [bne_self_eq_false, k1, go_sem, ne_up1, ne_up2, ne_up3, ne_up4, Int.cast_ofNat_Int, Nat.reduceAdd, Nat.reduceEqDiff, Nat.reduceLT, Int.reduceLT, Int.reduceToNat]
        with_reducible refine wc_is (wc118 _) ?_
        simp only [go_sem, put_new, ne_up1, ne_up2, Nat.reduceAdd, Nat.reduceEqDiff, Nat.reduceLT, Nat.reduceLeDiff]
        exact ends_popped rfl (by simp only [popOk_new, hS.2, Nat.le_refl]) (by simp only [pop_new, pop_self hS.1, Nat.le_refl]) ⟨rfl, rfl⟩
  · have h4 : ((l.length : Int) != 14) = true := by simp; omega
    simp only [h4, go_sem, ne_up1, ne_up2, ne_up3, ne_up4, Nat.reduceAdd, Nat.reduceEqDiff, Nat.reduceLT]
    with_reducible refine wc_is (wc118 _) ?_
    simp only [go_sem, put_new, ne_up1, ne_up2, Nat.reduceAdd, Nat.reduceEqDiff, Nat.reduceLT, Nat.reduceLeDiff]
    refine ends_popped rfl (by simp only [popOk_new, hS.2, Nat.le_refl]) (by simp only [pop_new, pop_self hS.1, Nat.le_refl]) ⟨?_, rfl⟩
    have : parseP l = none := by
      unfold parseP
      split
      · exact absurd rfl h14
      · rfl
    rw [this]; rfl
end Go.Proofs.YtgjnimemofmncaaGreatDoor

namespace Go.Proofs.YtgjnimemofmncaaGreatDoor
open Go.Abs Go.Tx
set_option maxHeartbeats 2000000
set_option maxRecDepth 20000
abbrev cellG (c : C6) : List FV := [.int .i64 c.1, .int .i64 c.2.1, .int .i64 c.2.2.1, .int .i64 c.2.2.2.1, .int .i64 c.2.2.2.2.1, .int .i64 c.2.2.2.2.2]
abbrev patG (p : PatV) : List FV := [.int .i64 p.rows, .sl (p.cells.map cellV)]
abbrev smpG (s : SmpV) : List FV := [.str s.name, intsV s.data, .int .i64 s.bits, .int .i64 s.rate, .int .i64 s.volume, .int .i64 s.pan, .int .i64 s.fine, .int .i64 s.lp, .int .i64 s.start, .int .i64 s.stop, .int .i64 s.sus, .int .i64 s.susStart, .int .i64 s.susEnd]
abbrev insG (i : InsV) : List FV := [.str i.name, ptsV i.keys,
  .bool i.volume.on, ptsV i.volume.points, .bool i.volume.sus, .int .i64 i.volume.susStart, .int .i64 i.volume.susEnd, .bool i.volume.lp, .int .i64 i.volume.lpStart, .int .i64 i.volume.lpEnd,
  .bool i.panning.on, ptsV i.panning.points, .bool i.panning.sus, .int .i64 i.panning.susStart, .int .i64 i.panning.susEnd, .bool i.panning.lp, .int .i64 i.panning.lpStart, .int .i64 i.panning.lpEnd,
  .bool i.pitch.on, ptsV i.pitch.points, .bool i.pitch.sus, .int .i64 i.pitch.susStart, .int .i64 i.pitch.susEnd, .bool i.pitch.lp, .int .i64 i.pitch.lpStart, .int .i64 i.pitch.lpEnd,
  .int .i64 i.fade, .int .i64 i.newNote, .int .i64 i.dup, .int .i64 i.dupDo, .int .i64 i.global, .int .i64 i.cutoff, .int .i64 i.reso]
abbrev songCA (s : SongV) (pv sv iv : AV) : List AV := [.c (.str s.name), i64 s.dialect, i64 s.channels, .c (intsV s.orders), i64 s.restart, i64 s.speed, i64 s.tempo, i64 s.global, .c (.bool s.linear), .c (intsV s.pans), pv, sv, iv]
inductive RowL {α : Type} (g : α → List FV) (U : TypeId) (sz : Nat) (l : List α) : AV → List (Nat × Ob) → Prop
  | nil (h : l = []) : RowL g U sz l (.c .nils) []
  | row (b : Nat) (h : 0 < l.length) : RowL g U sz l (.sl b 0 l.length sz false) [(b, .blk (rowC g l) 0 U)]
def RDx (S0 : St) (rb : Nat) (ls : List Bs) (i : Nat) (s : SongV) (F : List (Nat × Ob)) (T : St) : Prop :=
  ∃ pv sv iv Lp Ls Li, RowL patG 46 2 s.patterns pv Lp ∧ RowL smpG 48 13 s.samples sv Ls ∧ RowL insG 54 33 s.insts iv Li ∧ FR S0 ((rb, rdO ls i (songCA s pv sv iv)) :: (Lp ++ (Ls ++ (Li ++ F)))) T
def RdX {α : Type} (S0 : St) (rb : Nat) (ls : List Bs) (F : List (Nat × Ob)) (upd : α → SongV) (r : Res α) (x : CX) (T : St) : Prop :=
  match r with
  | .ok a j => x = .ret (.tup []) ∧ RDx S0 rb ls j (upd a) F T ∧ 1 ≤ j ∧ j ≤ ls.length
  | .bad k => x = .panic (stopV 2 k) ∧ Fwd S0 T
  | .short => x = .panic (stopV 12 ls.length) ∧ Fwd S0 T
theorem RowL.toIn {α : Type} {g : α → List FV} {U : TypeId} {sz : Nat} {l : List α} {v : AV} {Lp L : List (Nat × Ob)} {S0 T : St} {B : Nat} {X : AV → Ob} (h : RowL g U sz l v Lp) (hc : FR S0 ((B, X v) :: (Lp ++ L)) T) : RowIn S0 g U sz B X L l v T := by
  cases h with
  | nil h => exact .nil hc h
  | row b h => exact .row (hc.perm (List.Perm.swap ..)) h
theorem _root_.Go.Abs.RowIn.toL {α : Type} {g : α → List FV} {U : TypeId} {sz : Nat} {l : List α} {v : AV} {L : List (Nat × Ob)} {S0 T : St} {B : Nat} {X : AV → Ob} (h : RowIn S0 g U sz B X L l v T) : ∃ Lp, RowL g U sz l v Lp ∧ FR S0 ((B, X v) :: (Lp ++ L)) T := by
  cases h with
  | nil h hl => exact ⟨[], .nil hl, h⟩
  | row h hl => exact ⟨_, .row _ hl, h.perm (List.Perm.swap ..)⟩
theorem _root_.Go.Abs.RowIn.put_next {α : Type} {g : α → List FV} {U : TypeId} {sz : Nat} {l : List α} {v : AV} {L : List (Nat × Ob)} {S0 T : St} {B b : Nat} {o : Ob} {X : AV → Ob} (h : RowIn S0 g U sz B X ((b, o) :: L) l v T) (o' : Ob) : RowIn S0 g U sz B X ((b, o') :: L) l v (T.put b o') := by
  cases h with
  | nil h hl => exact .nil (FR.put_mid (L1 := [_]) h o') hl
  | row h hl => exact .row (FR.put_mid (L1 := [_, _]) h o') hl
theorem _root_.Go.Abs.RowIn.next_get {α : Type} {g : α → List FV} {U : TypeId} {sz : Nat} {l : List α} {v : AV} {L : List (Nat × Ob)} {S0 T : St} {B b : Nat} {o : Ob} {X : AV → Ob} (h : RowIn S0 g U sz B X ((b, o) :: L) l v T) : T.get b = some o := h.fr.get (by simp)
theorem wordsO_one {l w : Bs} {v : List Bs} (h : wordsO l w 1 = some v) : ∃ x, v = [x] := by
  unfold wordsO at h
  cases hs : Lib.split l [32] with
  | nil => rw [hs] at h; cases h
  | cons y r =>
    rw [hs] at h
    simp only at h
    split at h
    · rename_i hh
      cases h
      rcases hh.2 with h | h
      · omega
      · match v, h with
        | [x], _ => exact ⟨x, rfl⟩
    · cases h
theorem t90b : Tryz.t90.bytes = 48 := rfl
theorem t90s : Tryz.t90.size = 6 := rfl
theorem t90z : ∃ a, Tryz.t90.zero = some (.agg a) ∧ a.size = 6 := ⟨_, rfl, rfl⟩
theorem t46b : Tryz.t46.bytes = 32 := rfl
theorem t46s : Tryz.t46.size = 2 := rfl
theorem t46z : ∃ a, Tryz.t46.zero = some (.agg a) ∧ a.size = 2 := ⟨_, rfl, rfl⟩
section
variable {S0 T : St} {rb i : Nat} {ls : List Bs} {s : SongV} {F : List (Nat × Ob)} {m : Int}
theorem wc51 (hS0 : Shut S0) (hk : S0.known = KN m) (hls : ls.length ≤ 1000000000) (hll : ∀ l ∈ ls, l.length ≤ 1000000) (h : RDx S0 rb ls i s F T) (hi1 : 1 ≤ i) (hi : i ≤ ls.length) (line : Bs) (hline : line.length ≤ 1000000) :
    WC Tryz.prog 51 [.ref rb 0, str line] (RdX S0 rb ls F (fun p => { s with patterns := s.patterns ++ [p] }) (patR s.channels s.patterns.length line ls i)) T := by
  obtain ⟨pv, sv, iv, Lp, Ls, Li, hp, hs, hv, hc⟩ := h
  obtain ⟨a90, z90, s90⟩ := t90z
  obtain ⟨a46, z46, s46⟩ := t46z
  generalize hRR : Ls ++ (Li ++ F) = R at hc
  have hkn : ∀ {L : List (Nat × Ob)} {T : St}, FR S0 L T → T.known = KN m := fun h => h.known.trans hk
  generalize hRes : patR s.channels s.patterns.length line ls i = res
  have bad : ∀ {L : List (Nat × Ob)} {T : St} {k : Int}, FR S0 L T → res = .bad k → RdX S0 rb ls F (fun p => { s with patterns := s.patterns ++ [p] }) res (.panic (stopV 2 k)) T := fun h e => by
    subst e; exact ⟨rfl, h.fwd hS0⟩
  have h0 : (1 : Int) ≤ (i : Int) := by omega
  have h1 : (i : Int) ≤ 4000000000 := by omega
  have hg := hc.get1
  rw [patR, bnd_must] at hRes
  refine wc_fn (fn := Tryz.f51) (N := 104) (rs := []) (by rfl) (by kernel_rfl) (by rfl) (by rfl) (by rfl) (by rfl) fun hS => ?_
  simp only [hg, go_sem, Nat.reduceAdd, Nat.reduceEqDiff, Nat.reduceLT]
  refine resK_cut (fun e' T' => T' = T ∧ s.patterns.length < 32 ∧ e'.get 0 = .ref rb 0 ∧ e'.get 1 = str line) ?_ ?_
  · rcases hp with ⟨hl⟩ | ⟨b, hl⟩
    · rw [hl] at hRes ⊢
      simp only [go_sem, ne_up1, ne_up2, ne_up3, ne_up4, ne_up5, ne_up6, Int.cast_ofNat_Int, Nat.reduceEqDiff, Nat.reduceLT, Int.reduceLT]
      refine wc_must hg h0 h1 (fun _ => ?_) (fun h => by cases h)
      simp only [go_sem, ne_dn1, Nat.reduceEqDiff]
    · by_cases hn : s.patterns.length < 32
      · have q1 : ((s.patterns.length : Int) < 32) = True := by simp; omega
        simp only [q1, go_sem, ne_up1, ne_up2, ne_up3, ne_up4, ne_up5, ne_up6, Nat.reduceEqDiff, Nat.reduceLT]
        refine wc_must hg h0 h1 (fun _ => ?_) (fun h => by cases h)
        simp only [go_sem, ne_dn1, Nat.reduceEqDiff]
        exact hn
      · have q1 : ((s.patterns.length : Int) < 32) = False := by simp; omega
        simp only [q1, go_sem, ne_up1, ne_up2, ne_up3, ne_up4, ne_up5, ne_up6, Nat.reduceEqDiff, Nat.reduceLT]
        refine wc_must hg h0 h1 (fun h => by cases h) (fun _ => ?_)
        simp only [go_sem]
        rw [decide_eq_false hn, if_neg (by simp)] at hRes
        exact bad hc hRes.symm
  · rintro e' T' ⟨rfl, hn, g0, g1⟩
    rw [decide_eq_true hn, if_pos rfl, bnd_lift] at hRes
    simp only [g0, g1, go_sem, ne_up1, Nat.reduceEqDiff, Nat.reduceLT]
    refine wc_opt (wc43 hg h0 h1 (hkn hc) line wPattern 1 (by omega) (by omega) (by omega)) (fun v hv' => ?_) (fun hv' => ?_)
    case refine_2.refine_2 =>
      rw [hv'] at hRes
      simp only [go_sem]
      exact bad hc hRes.symm
    obtain ⟨a, rfl⟩ := wordsO_one hv'
    rw [hv'] at hRes
    simp only [List.getD_cons_zero, bnd_lift] at hRes
    have z1 : (0 : Nat) < 0 + 1 := by omega
    have hsza : allSize 1 [FV.str a] = true := rfl
    simp only [z1, hsza, List.map_cons, List.map_nil, List.length_cons, List.length_nil, List.getElem?_cons_zero, Option.map_some, go_sem, ne_up1, ne_up2, ne_up3, ne_up4, ne_up5, Nat.reduceAdd, Nat.reduceLT, Int.reduceLT, Int.reduceToNat]
    refine wc_opt (wc42 hg h0 h1 a) (fun rows hr => ?_) (fun hr => ?_)
    case refine_2 =>
      rw [hr] at hRes
      simp only [go_sem]
      exact bad hc hRes.symm
    rw [hr] at hRes
    simp only [bnd_must] at hRes
    by_cases r0 : 0 ≤ rows
    case neg =>
      have q1 : (rows ≥ 0) = False := by simp; omega
      rw [decide_eq_false r0, Bool.false_and, if_neg (by simp)] at hRes
      simp only [g0, q1, go_sem, ne_up1, ne_up2, ne_up3, ne_up4, ne_up5, ne_up6, Nat.reduceEqDiff, Nat.reduceLT]
      refine wc_must hg h0 h1 (fun h => by cases h) (fun _ => ?_)
      simp only [go_sem]
      exact bad hc hRes.symm
    by_cases r1 : rows ≤ 64
    case neg =>
      have q1 : (rows ≥ 0) = True := by simp; omega
      rw [decide_eq_false r1, Bool.and_false, if_neg (by simp)] at hRes
      simp only [g0, q1, r1, go_sem, ne_up1, ne_up2, ne_up3, ne_up4, ne_up5, ne_up6, Nat.reduceEqDiff, Nat.reduceLT]
      refine wc_must hg h0 h1 (fun h => by cases h) (fun _ => ?_)
      simp only [go_sem]
      exact bad hc hRes.symm
    have q1 : (rows ≥ 0) = True := by simp; omega
    rw [decide_eq_true r0, decide_eq_true r1, Bool.true_and, if_pos rfl] at hRes
    simp only [g0, q1, r1, go_sem, ne_up1, ne_up2, ne_up3, ne_up4, ne_up5, ne_up6, Nat.reduceEqDiff, Nat.reduceLT]
    refine wc_must hg h0 h1 (fun _ => ?_) (fun h => by cases h)
    simp only [go_sem, put_new, ne_up1, Nat.reduceAdd, Nat.reduceEqDiff, Nat.reduceLT, Nat.reduceLeDiff]
    obtain ⟨nr, rfl⟩ := Int.eq_ofNat_of_zero_le r0
    simp only [Int.toNat_natCast] at hRes r0 r1 ⊢
    have hc0 := hc.new (.blk [i64 nr, .c .nils] 0 46)
    generalize hB : T'.next = B2 at *
    have hstart : RowIn S0 cellG 90 6 B2 (fun v => .blk [i64 nr, v] 0 46) ((rb, rdO ls i (songCA s pv sv iv)) :: (Lp ++ R)) [] (.c .nils) (T'.new (.blk [i64 nr, .c .nils] 0 46)) := .nil hc0 rfl
    generalize T'.new (.blk [i64 nr, .c .nils] 0 46) = T1 at hstart ⊢
    rw [bnd] at hRes
    refine wloop_measW (fun m' e S' => ∃ (r j : Nat) (acc : List C6) (v : AV), m' = nr - r ∧ r ≤ nr ∧ acc.length ≤ r * 16 ∧ 1 ≤ j ∧ j ≤ ls.length ∧
      RowIn S0 cellG 90 6 B2 (fun v => .blk [i64 nr, v] 0 46) ((rb, rdO ls j (songCA s pv sv iv)) :: (Lp ++ R)) acc v S' ∧
      rowsR s.channels (nr - r) acc ls j = rowsR s.channels nr [] ls i ∧ e.get 0 = .ref rb 0 ∧ e.get 5 = .ref B2 0 ∧ e.get 37 = i64 nr ∧ e.get 38 = i64 r) ?_ nr _ _ ?_
    · rintro m' e S' ⟨r, j, acc, v, rfl, hr', hal, hj1, hj2, hin, hrow, g0, g5, g37, g38⟩
      rcases Nat.lt_or_ge r nr with hlt | hge
      · have q1 : ((r : Int) < (nr : Int)) := by omega
        have q5 := step_wrap r (by omega)
        rw [show nr - r = nr - (r + 1) + 1 by omega, rowsR, bnd_line] at hrow
        refine wcode_sound ?_
        simp only [g0, g37, g38, q1, go_sem, Nat.reduceEqDiff, Nat.reduceLT]
        refine wc_rd (wc44r hin.next_get hj2 hls) (fun l j' hl hj1' hj2' => ?_) (fun k j' hl => ?_) (fun j' hl => ?_)
        · rw [hl] at hrow
          simp only [bnd_must] at hrow
          have hin2 := hin.put_next (rdO ls j' (songCA s pv sv iv))
          generalize S'.put rb (rdO ls j' (songCA s pv sv iv)) = S2 at hin2 ⊢
          have hl' := hll l (lineR_mem hl)
          have hrd := hin2.next_get
          have h0' : (1 : Int) ≤ (j' : Int) := by omega
          have h1' : (j' : Int) ≤ 4000000000 := by omega
          have hbar : bar = [32, 124, 32] := rfl
          have hwl := split_length l bar
          simp only [go_sem, Nat.reduceLT]
          refine wc_is (wc39 (hkn hin2.fr) l [32, 124, 32] (by omega) (by decide)) ?_
          rw [← hbar]
          generalize hws : Lib.split l bar = ws at *
          have hsz : allSize 1 (ws.map FV.str) = true := allSize_strs _
          by_cases c1 : 1 ≤ s.channels
          case neg =>
            have d1 : (s.channels ≥ 1) = False := by simp; omega
            rw [decide_eq_false c1, Bool.false_and, Bool.false_and, if_neg (by simp)] at hrow
            rw [← hrow] at hRes
            simp only [g0, hrd, d1, go_sem, ne_up1, ne_up2, ne_up3, ne_up4, ne_up5, ne_up6, Nat.reduceAdd, Nat.reduceEqDiff, Nat.reduceLT]
            refine wc_must hrd h0' h1' (fun h => by cases h) (fun _ => ?_)
            simp only [go_sem]
            exact bad hin2.fr hRes.symm
          have d1 : (s.channels ≥ 1) = True := by simp; omega
          by_cases c2 : s.channels ≤ 16
          case neg =>
            rw [decide_eq_false c2, Bool.and_false, Bool.false_and, if_neg (by simp)] at hrow
            rw [← hrow] at hRes
            simp only [g0, hrd, d1, c2, go_sem, ne_up1, ne_up2, ne_up3, ne_up4, ne_up5, ne_up6, Nat.reduceAdd, Nat.reduceEqDiff, Nat.reduceLT]
            refine wc_must hrd h0' h1' (fun h => by cases h) (fun _ => ?_)
            simp only [go_sem]
            exact bad hin2.fr hRes.symm
          by_cases c3 : (ws.length : Int) = s.channels
          case neg =>
            have d3 : ((ws.length : Int) == s.channels) = false := by simpa using c3
            rw [decide_eq_false c3, Bool.and_false, if_neg (by simp)] at hrow
            rw [← hrow] at hRes
            simp only [g0, hrd, d1, c2, d3, List.length_map, go_sem, ne_up1, ne_up2, ne_up3, ne_up4, ne_up5, ne_up6, Nat.reduceAdd, Nat.reduceEqDiff, Nat.reduceLT]
            refine wc_must hrd h0' h1' (fun h => by cases h) (fun _ => ?_)
            simp only [go_sem]
            exact bad hin2.fr hRes.symm
          have d3 : ((ws.length : Int) == s.channels) = true := by simpa using c3
          rw [decide_eq_true c1, decide_eq_true c2, decide_eq_true c3, Bool.and_self, Bool.and_self, if_pos rfl, bnd_lift] at hrow
          simp only [g0, hrd, d1, c2, d3, List.length_map, go_sem, ne_up1, ne_up2, ne_up3, ne_up4, ne_up5, ne_up6, Nat.reduceAdd, Nat.reduceEqDiff, Nat.reduceLT]
          refine wc_must hrd h0' h1' (fun _ => ?_) (fun h => by cases h)
          simp only [List.length_map, go_sem, Nat.reduceEqDiff, Nat.reduceLT]
          have hwn : ws.length ≤ 16 := by omega
          refine wloop_meas (fun m' e S' => ∃ (q : Nat) (cs : List C6) (v : AV), m' = ws.length - q ∧ q ≤ ws.length ∧ cs.length = q ∧
            RowIn S0 cellG 90 6 B2 (fun v => .blk [i64 nr, v] 0 46) ((rb, rdO ls j' (songCA s pv sv iv)) :: (Lp ++ R)) (acc ++ cs) v S' ∧
            (allO parseP (ws.drop q)).map (cs ++ ·) = allO parseP ws ∧ e.get 0 = .ref rb 0 ∧ e.get 5 = .ref B2 0 ∧ e.get 37 = i64 nr ∧ e.get 38 = i64 r ∧ e.get 69 = wordsV ws ∧ e.get 70 = i64 ws.length ∧ e.get 71 = i64 q) ?_ ws.length _ _ ?_
          · rintro m' e S' ⟨q, cs, v, rfl, hq, hcs, hin, hm, g0, g5, g37, g38, g69, g70, g71⟩
            rcases Nat.lt_or_ge q ws.length with hlt' | hge
            · have q1 : ((q : Int) < (ws.length : Int)) := by omega
              have q2 : ¬ ((q : Int) < 0) := by omega
              have q3 : (ws.map FV.str)[q]? = some (.str ws[q]) := by simp [hlt']
              have q5 := step_wrap q (by omega)
              rw [allO_drop parseP ws q hlt'] at hm
              have hgt : ∀ o, (S'.new o).get rb = some (rdO ls j' (songCA s pv sv iv)) := fun o => (hin.fr.tmp o).get (List.mem_cons_of_mem _ (List.mem_cons_self ..))
              simp only [g69, g70, g71, q1, q2, q3, hlt', hsz, List.length_map, Int.toNat_natCast, Option.map_some, go_sem, ne_up1, ne_up3, Nat.reduceLT]
              refine wc_is (wc79 _ _) ?_
              cases hpc : parseP ws[q] with
              | none =>
                rw [hpc] at hm
                have e2 : ((2 : Int) == 0) = false := rfl
                simp only [g0, cellA, e2, go_sem, put_new, ne_up1, ne_up2, ne_up3, Nat.reduceAdd, Nat.reduceEqDiff, Nat.reduceLT, Nat.reduceLeDiff]
                refine wc_must (hgt _) h0' h1' (fun h => by cases h) (fun _ => ?_)
                simp only [go_sem]
                have : allO parseP ws = none := by rw [← hm]; rfl
                rw [this] at hrow
                rw [← hrow] at hRes
                exact bad (hin.fr.tmp _) hRes.symm
              | some c =>
                obtain ⟨a1, a2, a3, a4, a5, a6⟩ := c
                rw [hpc] at hm
                have hm' : (allO parseP (ws.drop (q + 1))).map (cs ++ [(a1, a2, a3, a4, a5, a6)] ++ ·) = allO parseP ws := by
                  rw [← hm]
                  cases allO parseP (ws.drop (q + 1)) <;> simp
                have e2 : ((0 : Int) == 0) = true := rfl
                simp only [g0, cellA, e2, go_sem, put_new, ne_up1, ne_up2, ne_up3, Nat.reduceAdd, Nat.reduceEqDiff, Nat.reduceLT, Nat.reduceLeDiff]
                refine wc_must (hgt _) h0' h1' (fun _ => ?_) (fun h => by cases h)
                cases hin with
                | nil h hl0 =>
                  have hac := hl0
                  have hB := h.get1
                  have hBn : (S'.next = B2) = False := h.new_ne (List.mem_cons_self ..)
                  have hBn1 : (S'.next + 1 = B2) = False := eq_false (by have := h.lt (List.mem_cons_self ..); omega)
                  have hBn2 : (S'.next + 1 + 1 = B2) = False := eq_false (by have := h.lt (List.mem_cons_self ..); omega)
                  simp only [Option.map_some, Nat.zero_add, Nat.zero_le, Nat.zero_mul, List.drop_zero, List.map_cons, List.map_nil, t90b, t90s, z90, s90, g0, g5, g37, g38, g69, g70, g71, q5, hB, hBn, hBn1, hBn2, go_sem, maxLenA, ne_up1, ne_dn1, ne_up2, ne_up3, ne_up4, ne_up5, ne_up6, Nat.reduceAdd, Nat.reduceMul, Nat.reduceEqDiff, Nat.reduceLT, Nat.reduceLeDiff]
                  have hcs0 : acc = [] ∧ cs = [] := List.append_eq_nil_iff.1 hl0
                  have e3 : acc ++ (cs ++ [(a1, a2, a3, a4, a5, a6)]) = [((a1, a2, a3, a4, a5, a6) : C6)] := by rw [hcs0.1, hcs0.2]; rfl
                  refine ⟨ws.length - (q + 1), by omega, q + 1, cs ++ [(a1, a2, a3, a4, a5, a6)], .sl (S'.next + 1 + 1) 0 1 6 false, rfl, by omega, by rw [List.length_append, hcs]; rfl, ?_, hm', rfl⟩
                  rw [e3]
                  exact RowIn.first (X := fun v => .blk [i64 nr, v] 0 46) (g := cellG) (h.tmp (.blk [i64 a1, i64 a2, i64 a3, i64 a4, i64 a5, i64 a6] 0 90)) (a1, a2, a3, a4, a5, a6) _
                | row h hpos =>
                  rename_i b
                  generalize hac : acc ++ cs = ac at *
                  have hacl : ac.length ≤ 1040 := by rw [← hac, List.length_append]; omega
                  have hb := h.get1
                  have hB := h.drop.get1
                  have hbB : (b = B2) = False := eq_false (h.apart (List.mem_cons_self ..))
                  have hBb : (B2 = b) = False := eq_false (fun e => h.apart (List.mem_cons_self ..) e.symm)
                  have hbn : (S'.next = b) = False := h.new_ne (List.mem_cons_self ..)
                  have hbn1 : (S'.next + 1 = b) = False := eq_false (by have := h.lt (List.mem_cons_self ..); omega)
                  have hbn2 : (S'.next + 1 + 1 = b) = False := eq_false (by have := h.lt (List.mem_cons_self ..); omega)
                  have hBn : (S'.next = B2) = False := h.drop.new_ne (List.mem_cons_self ..)
                  have hBn1 : (S'.next + 1 = B2) = False := eq_false (by have := h.drop.lt (List.mem_cons_self ..); omega)
                  have hBn2 : (S'.next + 1 + 1 = B2) = False := eq_false (by have := h.drop.lt (List.mem_cons_self ..); omega)
                  have hrc : (rowC cellG ac).length = ac.length * 6 := rowC_length cellG (s := 6) (fun _ => rfl) ac
                  have zt : (rowC cellG ac).take (ac.length * 6) = rowC cellG ac := List.take_of_length_le (by omega)
                  have z1 : (ac.length + 1) * 48 ≤ 140737488355328 := by omega
                  have z2 : ¬ ((ac.length + 1) * 6 ≤ ac.length * 6) := by omega
                  simp only [Option.map_some, Nat.zero_add, Nat.zero_le, Nat.zero_mul, List.drop_zero, List.map_cons, List.map_nil, t90b, t90s, z90, s90, g0, g5, g37, g38, g69, g70, g71, q5, hb, hB, hbB, hbn, hbn1, hBn, hBn1, hBn2, hrc, zt, z1, z2, Nat.le_refl, go_sem, maxLenA, ne_up1, ne_dn1, ne_up2, ne_up3, ne_up4, ne_up5, ne_up6, Nat.reduceAdd, Nat.reduceSub, Nat.reduceMul, Nat.reduceEqDiff, Nat.reduceLT, Nat.reduceLeDiff]
                  refine ⟨ws.length - (q + 1), by omega, q + 1, cs ++ [(a1, a2, a3, a4, a5, a6)], .sl (S'.next + 1 + 1) 0 (ac.length + 1) 6 false, rfl, by omega, by rw [List.length_append, hcs]; rfl, ?_, hm', rfl⟩
                  rw [← List.append_assoc, hac]
                  exact RowIn.more (X := fun v => .blk [i64 nr, v] 0 46) (g := cellG) (h.tmp (.blk [i64 a1, i64 a2, i64 a3, i64 a4, i64 a5, i64 a6] 0 90)) (a1, a2, a3, a4, a5, a6) _
            · have q1 : ¬ ((q : Int) < (ws.length : Int)) := by omega
              rw [List.drop_eq_nil_of_le hge] at hm
              simp only [allO, Option.map_some, List.append_nil] at hm
              rw [← hm] at hrow
              simp only at hrow
              simp only [g0, g5, g37, g38, g70, g71, q1, q5, go_sem, ne_up1, ne_up2, Nat.reduceEqDiff, Nat.reduceLT]
              exact ⟨nr - (r + 1), by omega, r + 1, j', acc ++ cs, _, rfl, by omega, by rw [List.length_append]; omega, hj1', hj2', hin, hrow, rfl⟩
          · exact ⟨0, [], _, rfl, Nat.zero_le _, rfl, by rw [List.append_nil]; exact hin2, by rw [List.drop_zero]; cases allO parseP ws <;> simp, by simp only [g0, go_sem, ne_up6, Nat.reduceEqDiff], by simp only [g5, go_sem, ne_up1, Nat.reduceEqDiff], by simp only [g37, go_sem, ne_up2, ne_up3, ne_up4, ne_up5, ne_up6, Nat.reduceEqDiff], by simp only [g38, go_sem, ne_up1, ne_up2, ne_up3, ne_up4, ne_up5, ne_up6, Nat.reduceEqDiff], by simp only [go_sem, ne_up1, ne_up2], by simp only [go_sem, ne_up1], by simp only [go_sem, Int.cast_ofNat_Int]⟩
        · rw [hl] at hrow
          simp only at hrow
          rw [← hrow] at hRes
          simp only [go_sem]
          exact bad (hin.put_next _).fr hRes.symm
        · rw [hl] at hrow
          simp only at hrow
          rw [← hrow] at hRes
          subst hRes
          simp only [go_sem]
          exact ⟨rfl, (hin.put_next _).fr.fwd hS0⟩
      · have q1 : ¬ ((r : Int) < (nr : Int)) := by omega
        have hrn : nr - r = 0 := by omega
        rw [hrn, rowsR] at hrow
        rw [← hrow] at hRes
        simp only [pureR] at hRes
        obtain ⟨T2, href, hc2⟩ := hin.closeUp (P := Tryz.prog) (C := fun v => [i64 nr, v]) (ro := 0) (i := 1) (U2 := 46) (e := cellV) (fun T b hT => frz_rows (g := cellG) (s := 6) (fun _ => rfl) ag90 sz90 hT) (fun _ => rfl) (fun _ => rfl) (fun _ _ => rfl)
        refine w_refine href (wcode_sound ?_)
        have hgB := hc2.get1
        have hrow2 : RowIn S0 patG 46 2 rb (fun v => rdO ls j (songCA s v sv iv)) ((B2, .blk [i64 nr, .c (.sl (acc.map cellV))] 0 46) :: R) s.patterns pv T2 := hp.toIn (hc2.perm ((List.Perm.swap ..).trans (List.Perm.cons _ List.perm_middle.symm)))
        have hBl : B2 < T2.next := hc2.lt (List.mem_cons_self ..)
        have hBr : (rb = B2) = False := eq_false (fun e => hc2.apart (List.mem_cons_self ..) e.symm)
        have hBr' : (B2 = rb) = False := eq_false (hc2.apart (List.mem_cons_self ..))
        have hBn : (T2.next = B2) = False := eq_false (by omega)
        have hBn1 : (T2.next + 1 = B2) = False := eq_false (by omega)
        simp only [g37, g38, q1, go_sem, Nat.reduceLT]
        refine wdraw_plan ch51x16 pp51x16 (by kernel_rfl) (by kernel_rfl) (by kernel_rfl) ?_
        rw [← hRes]
        cases hrow2 with
        | nil h hl0 =>
          have hgr := h.get1
          have hrl : rb < T2.next := h.lt (List.mem_cons_self ..)
          have hrn1 : (T2.next = rb) = False := eq_false (by omega)
          have hrn2 : (T2.next + 1 = rb) = False := eq_false (by omega)
          simp only [Option.map_some, Nat.zero_add, Nat.zero_le, Nat.zero_mul, List.drop_zero, List.map_cons, List.map_nil, t46b, t46s, z46, s46, g0, g5, hgB, hgr, hBn, hBn1, hrn1, hrn2, go_sem, maxLenA, ne_up1, ne_up2, ne_up3, ne_up4, ne_up5, ne_up6, Option.some.injEq, Nat.reduceAdd, Nat.reduceMul, Nat.reduceEqDiff, Nat.reduceLT, Nat.reduceLeDiff]
          refine ends_now ⟨rfl, ?_, hj1, hj2⟩
          obtain ⟨Lp', hp', hc'⟩ := (RowIn.first (X := fun v => rdO ls j (songCA s v sv iv)) (g := patG) (U := 46) (s := 2) h (⟨nr, acc⟩ : PatV) (.blk [i64 nr, .c (.sl (acc.map cellV))] 0 46)).toL
          have hc' := hc'.sub (List.Sublist.cons_cons _ ((List.Sublist.refl _).append (List.sublist_cons_self _ R)))
          rw [← hRR] at hc'
          exact ⟨_, sv, iv, Lp', Ls, Li, by rw [hl0]; exact hp', hs, hv, hc'⟩
        | row h hpos =>
          rename_i b
          have hgb := h.get1
          have hgr := h.drop.get1
          have hrl : rb < T2.next := h.drop.lt (List.mem_cons_self ..)
          have hbl : b < T2.next := h.lt (List.mem_cons_self ..)
          have hrn1 : (T2.next = rb) = False := eq_false (by omega)
          have hrn2 : (T2.next + 1 = rb) = False := eq_false (by omega)
          have hbn1 : (T2.next = b) = False := eq_false (by omega)
          have hbn2 : (T2.next + 1 = b) = False := eq_false (by omega)
          have hbr : (b = rb) = False := eq_false (h.apart (List.mem_cons_self ..))
          have hbr' : (rb = b) = False := eq_false (fun e => h.apart (List.mem_cons_self ..) e.symm)
          have hbB : (b = B2) = False := eq_false (fun e => h.apart (p := (B2, _)) (List.mem_cons_of_mem _ (List.mem_cons_self ..)) e)
          have hbB' : (B2 = b) = False := eq_false (fun e => h.apart (p := (B2, _)) (List.mem_cons_of_mem _ (List.mem_cons_self ..)) e.symm)
          have hrc : (rowC patG s.patterns).length = s.patterns.length * 2 := rowC_length patG (s := 2) (fun _ => rfl) s.patterns
          have zt : (rowC patG s.patterns).take (s.patterns.length * 2) = rowC patG s.patterns := List.take_of_length_le (by omega)
          have z1 : (s.patterns.length + 1) * 32 ≤ 140737488355328 := by omega
          have z2 : ¬ ((s.patterns.length + 1) * 2 ≤ s.patterns.length * 2) := by omega
          simp only [Option.map_some, Nat.zero_add, Nat.zero_le, Nat.zero_mul, List.drop_zero, List.map_cons, List.map_nil, t46b, t46s, z46, s46, g0, g5, hgB, hgr, hgb, hBn, hBn1, hrn1, hrn2, hbn1, hbr, hbB, hrc, zt, z1, z2, Nat.le_refl, go_sem, maxLenA, ne_up1, ne_up2, ne_up3, ne_up4, ne_up5, ne_up6, Option.some.injEq, Nat.reduceAdd, Nat.reduceSub, Nat.reduceMul, Nat.reduceEqDiff, Nat.reduceLT, Nat.reduceLeDiff]
          refine ends_now ⟨rfl, ?_, hj1, hj2⟩
          obtain ⟨Lp', hp', hc'⟩ := (RowIn.more (X := fun v => rdO ls j (songCA s v sv iv)) (g := patG) (U := 46) (s := 2) h (⟨nr, acc⟩ : PatV) (.blk [i64 nr, .c (.sl (acc.map cellV))] 0 46)).toL
          have hc' := hc'.sub (List.Sublist.cons_cons _ ((List.Sublist.refl _).append (List.sublist_cons_self _ R)))
          rw [← hRR] at hc'
          exact ⟨_, sv, iv, Lp', Ls, Li, hp', hs, hv, hc'⟩
    · exact ⟨0, i, [], _, rfl, Nat.zero_le _, Nat.zero_le _, hi1, hi, hstart, rfl, by simp only [g0, go_sem, ne_up4, ne_up5, Nat.reduceEqDiff], by simp only [go_sem, Nat.reduceEqDiff], by simp only [go_sem, ne_up1], by simp only [go_sem, Int.cast_ofNat_Int]⟩
end
end Go.Proofs.YtgjnimemofmncaaGreatDoor

namespace Go.Proofs.YtgjnimemofmncaaGreatDoor
open Go.Abs Go.Tx
set_option maxHeartbeats 2000000
set_option maxRecDepth 20000
abbrev intG (n : Int) : List FV := [.int .i64 n]
theorem flat_ints : ∀ l : List Int, Abs.flat (l.map intV) = rowC intG l
  | [] => rfl
  | x :: r => by
    rw [List.map_cons, Abs.flat, flat_ints r]
    rfl
theorem rowC_ints (l : List Int) : rowC intG l = (l.map intV).map .c := by
  induction l with
  | nil => rfl
  | cons x r ih => rw [show x :: r = [x] ++ r from rfl, rowC_append, ih]; rfl
theorem frz_ints {T : St} {b ro : Nat} {l : List Int} (h : T.get b = some (.blk (rowC intG l) ro 3)) : freezeRow Tryz.prog b 0 l.length 1 T = some (.sl (l.map intV)) := by
  have := frz_plain ag3 sz3 (by rw [h, rowC_ints])
  rwa [List.length_map] at this
theorem namedO_len {line word : Bs} {n : Nat} {p : Bs × List Int} (h : namedO line word n = some p) : p.2.length = n := by
  unfold namedO at h
  split at h
  · split at h
    · split at h
      · split at h
        · rename_i hh
          split at h
          · rename_i l hl
            cases h
            rw [nums_len hl]; exact hh.2
          · cases h
        · cases h
      · cases h
    · cases h
  · cases h
theorem wordsO_len {l w : Bs} {n : Nat} {v : List Bs} (h : wordsO l w n = some v) : v.length = n := by
  unfold wordsO at h
  cases hs : Lib.split l [32] with
  | nil => rw [hs] at h; cases h
  | cons y r =>
    rw [hs] at h
    simp only at h
    split at h
    · rename_i hh
      cases h
      rcases hh.2 with h | h <;> omega
    · cases h
theorem t48b : Tryz.t48.bytes = 128 := rfl
theorem t48s : Tryz.t48.size = 13 := rfl
theorem t48z : ∃ a, Tryz.t48.zero = some (.agg a) ∧ a.size = 13 := ⟨_, rfl, rfl⟩
section
variable {S0 T : St} {rb i : Nat} {ls : List Bs} {s : SongV} {F : List (Nat × Ob)} {m : Int}
theorem wc52 (hS0 : Shut S0) (hk : S0.known = KN m) (hls : ls.length ≤ 1000000000) (hll : ∀ l ∈ ls, l.length ≤ 1000000) (h : RDx S0 rb ls i s F T) (hi1 : 1 ≤ i) (hi : i ≤ ls.length) (line : Bs) (hline : line.length ≤ 1000000) :
    WC Tryz.prog 52 [.ref rb 0, str line] (RdX S0 rb ls F (fun x => { s with samples := s.samples ++ [x] }) (smpR s.samples.length line ls i)) T := by
  obtain ⟨pv, sv, iv, Lp, Ls, Li, hp, hs, hv, hc⟩ := h
  obtain ⟨a48, z48, s48⟩ := t48z
  have hc := hc.perm (List.Perm.cons _ (List.perm_append_comm_assoc Lp Ls (Li ++ F)))
  generalize hRR : Lp ++ (Li ++ F) = R at hc
  have hkn : ∀ {L : List (Nat × Ob)} {T : St}, FR S0 L T → T.known = KN m := fun h => h.known.trans hk
  generalize hRes : smpR s.samples.length line ls i = res
  have bad : ∀ {L : List (Nat × Ob)} {T : St} {k : Int}, FR S0 L T → res = .bad k → RdX S0 rb ls F (fun x => { s with samples := s.samples ++ [x] }) res (.panic (stopV 2 k)) T := fun h e => by
    subst e; exact ⟨rfl, h.fwd hS0⟩
  have short : ∀ {L : List (Nat × Ob)} {T : St}, FR S0 L T → res = .short → RdX S0 rb ls F (fun x => { s with samples := s.samples ++ [x] }) res (.panic (stopV 12 ls.length)) T := fun h e => by
    subst e; exact ⟨rfl, h.fwd hS0⟩
  have h0 : (1 : Int) ≤ (i : Int) := by omega
  have h1 : (i : Int) ≤ 4000000000 := by omega
  have hg := hc.get1
  rw [smpR, bnd_must] at hRes
  refine wc_fn (fn := Tryz.f52) (N := 125) (rs := []) (by rfl) (by kernel_rfl) (by rfl) (by rfl) (by rfl) (by rfl) fun hS => ?_
  simp only [hg, go_sem, Nat.reduceAdd, Nat.reduceEqDiff, Nat.reduceLT]
  refine resK_cut (fun e' T' => T' = T ∧ s.samples.length < 31 ∧ e'.get 0 = .ref rb 0 ∧ e'.get 1 = str line) ?_ ?_
  · rcases hs with ⟨hl⟩ | ⟨b, hl⟩
    · rw [hl] at hRes ⊢
      simp only [go_sem, ne_up1, ne_up2, ne_up3, ne_up4, ne_up5, ne_up6, Int.cast_ofNat_Int, Nat.reduceEqDiff, Nat.reduceLT, Int.reduceLT]
      refine wc_must hg h0 h1 (fun _ => ?_) (fun h => by cases h)
      simp only [go_sem, ne_dn1, Nat.reduceEqDiff]
    · by_cases hn : s.samples.length < 31
      · have q1 : ((s.samples.length : Int) < 31) = True := by simp; omega
        simp only [q1, go_sem, ne_up1, ne_up2, ne_up3, ne_up4, ne_up5, ne_up6, Nat.reduceEqDiff, Nat.reduceLT]
        refine wc_must hg h0 h1 (fun _ => ?_) (fun h => by cases h)
        simp only [go_sem, ne_dn1, Nat.reduceEqDiff]
        exact hn
      · have q1 : ((s.samples.length : Int) < 31) = False := by simp; omega
        simp only [q1, go_sem, ne_up1, ne_up2, ne_up3, ne_up4, ne_up5, ne_up6, Nat.reduceEqDiff, Nat.reduceLT]
        refine wc_must hg h0 h1 (fun h => by cases h) (fun _ => ?_)
        simp only [go_sem]
        rw [decide_eq_false hn, if_neg (by simp)] at hRes
        exact bad hc hRes.symm
  · rintro e' T' ⟨rfl, hn, g0, g1⟩
    rw [decide_eq_true hn, if_pos rfl, bnd_lift] at hRes
    simp only [g0, g1, go_sem, ne_up1, Nat.reduceEqDiff, Nat.reduceLT]
    refine wc_opt (wc80 hg h0 h1 (hkn hc) line wSample 5 (by omega) (by decide) (by omega)) (fun p hp' => ?_) (fun hp' => ?_)
    case refine_2.refine_2 =>
      rw [hp'] at hRes
      simp only [go_sem]
      exact bad hc hRes.symm
    rw [hp'] at hRes
    have hl5 := namedO_len hp'
    obtain ⟨nm, l⟩ := p
    simp only at hl5
    obtain ⟨a0, a1, a2, a3, a4, rfl⟩ : ∃ a0 a1 a2 a3 a4, l = [a0, a1, a2, a3, a4] := by
      match l, hl5 with
      | [a0, a1, a2, a3, a4], _ => exact ⟨_, _, _, _, _, rfl⟩
    clear hl5 hp'
    simp only [List.getD_cons_zero, List.getD_cons_succ, wordR, bnd_assoc, bnd_line] at hRes
    have hszn : allSize 1 [FV.int .i64 a0, FV.int .i64 a1, FV.int .i64 a2, FV.int .i64 a3, FV.int .i64 a4] = true := rfl
    simp only [go_sem, ne_up1, ne_up4, Nat.reduceEqDiff, Nat.reduceLT]
    refine wdraw_plan ch52x2 pp52x2 (by kernel_rfl) (by kernel_rfl) (by kernel_rfl) ?_
    simp only [g0, hszn, List.map_cons, List.map_nil, List.length_cons, List.length_nil, List.getElem?_cons_zero, List.getElem?_cons_succ, Option.map_some, go_sem, put_new, ne_up1, ne_up2, ne_up3, ne_up4, ne_up5, ne_up6, Option.some.injEq, Nat.reduceAdd, Nat.reduceEqDiff, Nat.reduceLT, Nat.reduceLeDiff, Int.reduceLT, Int.reduceToNat]
    have hc := hc.new (.blk [.c (.str nm), .c .nils, i64 a0, i64 a1, i64 a2, i64 a3, i64 a4, i64 0, i64 0, i64 0, i64 0, i64 0, i64 0] 0 48)
    generalize hB : T'.next = B2 at *
    generalize T'.new (.blk [.c (.str nm), .c .nils, i64 a0, i64 a1, i64 a2, i64 a3, i64 a4, i64 0, i64 0, i64 0, i64 0, i64 0, i64 0] 0 48) = T1 at hc ⊢
    have hg : T1.get rb = some (rdO ls i (songCA s pv sv iv)) := hc.drop.get1
    refine wc_rd (wc44r hg hi hls) (fun l j hl hj1 hj2 => ?_) (fun k j hl => ?_) (fun j hl => ?_)
    case refine_2 =>
      rw [hl] at hRes
      simp only [go_sem]
      exact bad (FR.put_mid (L1 := [_]) hc _) hRes.symm
    case refine_3 =>
      rw [hl] at hRes
      simp only [go_sem]
      exact short (FR.put_mid (L1 := [_]) hc _) hRes.symm
    rw [hl] at hRes
    simp only [bnd_lift] at hRes
    have hc := FR.put_mid (L1 := [_]) hc (rdO ls j (songCA s pv sv iv))
    generalize T1.put rb (rdO ls j (songCA s pv sv iv)) = T2 at hc ⊢
    have hg : T2.get rb = some (rdO ls j (songCA s pv sv iv)) := hc.drop.get1
    have h0 : (1 : Int) ≤ (j : Int) := by omega
    have h1 : (j : Int) ≤ 4000000000 := by omega
    have hl' := hll l (lineR_mem hl)
    simp only [go_sem, ne_up1, ne_up2, Nat.reduceLT]
    refine wc_opt (wc43 hg h0 h1 (hkn hc) l wLoops 6 (by omega) (by omega) (by omega)) (fun v hv' => ?_) (fun hv' => ?_)
    case refine_2 =>
      rw [hv'] at hRes
      simp only [go_sem]
      exact bad hc hRes.symm
    rw [hv'] at hRes
    simp only [] at hRes
    have hv6 : v.length = 6 := wordsO_len (n := 6) hv'
    simp only [go_sem, ne_up1, ne_up2, ne_up3, ne_up4, Nat.reduceLT]
    refine wc_opt (wc48 hg h0 h1 v (by omega)) (fun n hn' => ?_) (fun hn' => ?_)
    case refine_2 =>
      rw [hn'] at hRes
      simp only [go_sem]
      exact bad hc hRes.symm
    rw [hn'] at hRes
    have hn6 := nums_len hn'
    rw [hv6] at hn6
    obtain ⟨b0, b1, b2, b3, b4, b5, rfl⟩ : ∃ b0 b1 b2 b3 b4 b5, n = [b0, b1, b2, b3, b4, b5] := by
      match n, hn6 with
      | [b0, b1, b2, b3, b4, b5], _ => exact ⟨_, _, _, _, _, _, rfl⟩
    clear hn6 hn' hv6 hv'
    simp only [List.getD_cons_zero, List.getD_cons_succ, bnd_assoc, bnd_line] at hRes
    have hszn6 : allSize 1 [FV.int .i64 b0, FV.int .i64 b1, FV.int .i64 b2, FV.int .i64 b3, FV.int .i64 b4, FV.int .i64 b5] = true := rfl
    have hgB := hc.get1
    simp only [go_sem, Nat.reduceLT]
    refine wdraw_plan ch52x4 pp52x4 (by kernel_rfl) (by kernel_rfl) (by kernel_rfl) ?_
    simp only [g0, hgB, hszn6, List.map_cons, List.map_nil, List.length_cons, List.length_nil, List.getElem?_cons_zero, List.getElem?_cons_succ, Option.map_some, go_sem, put_put, ne_up1, ne_dn1, ne_up2, ne_up3, ne_up4, ne_up5, ne_up6, Option.some.injEq, Nat.reduceAdd, Nat.reduceEqDiff, Nat.reduceLT, Nat.reduceLeDiff, Int.reduceLT, Int.reduceToNat]
    have hc := hc.put (.blk [.c (.str nm), .c .nils, i64 a0, i64 a1, i64 a2, i64 a3, i64 a4, i64 b0, i64 b1, i64 b2, i64 b3, i64 b4, i64 b5] 0 48)
    generalize T2.put B2 (.blk [.c (.str nm), .c .nils, i64 a0, i64 a1, i64 a2, i64 a3, i64 a4, i64 b0, i64 b1, i64 b2, i64 b3, i64 b4, i64 b5] 0 48) = T3 at hc ⊢
    have hg : T3.get rb = some (rdO ls j (songCA s pv sv iv)) := hc.drop.get1
    clear hgB hl hl' hj1 h0 h1
    refine wc_rd (wc44r hg hj2 hls) (fun l j' hl hj1 hj2' => ?_) (fun k j hl => ?_) (fun j hl => ?_)
    case refine_2 =>
      rw [hl] at hRes
      simp only [go_sem]
      exact bad (FR.put_mid (L1 := [_]) hc _) hRes.symm
    case refine_3 =>
      rw [hl] at hRes
      simp only [go_sem]
      exact short (FR.put_mid (L1 := [_]) hc _) hRes.symm
    rw [hl] at hRes
    simp only [bnd_lift] at hRes
    have hc := FR.put_mid (L1 := [_]) hc (rdO ls j' (songCA s pv sv iv))
    generalize T3.put rb (rdO ls j' (songCA s pv sv iv)) = T4 at hc ⊢
    have hg : T4.get rb = some (rdO ls j' (songCA s pv sv iv)) := hc.drop.get1
    have h0 : (1 : Int) ≤ (j' : Int) := by omega
    have h1 : (j' : Int) ≤ 4000000000 := by omega
    have hl' := hll l (lineR_mem hl)
    simp only [go_sem, ne_up1, ne_up2, Nat.reduceLT]
    refine wc_opt (wc43 hg h0 h1 (hkn hc) l wData 1 (by omega) (by omega) (by omega)) (fun v hv' => ?_) (fun hv' => ?_)
    case refine_2 =>
      rw [hv'] at hRes
      simp only [go_sem]
      exact bad hc hRes.symm
    obtain ⟨a, rfl⟩ := wordsO_one hv'
    rw [hv'] at hRes
    simp only [List.getD_cons_zero] at hRes
    have z1 : (0 : Nat) < 0 + 1 := by omega
    have hsza : allSize 1 [FV.str a] = true := rfl
    simp only [z1, hsza, List.map_cons, List.map_nil, List.length_cons, List.length_nil, List.getElem?_cons_zero, Option.map_some, go_sem, ne_up1, ne_up2, ne_up3, ne_up4, ne_up5, ne_up6, Nat.reduceAdd, Nat.reduceLT, Int.reduceLT, Int.reduceToNat]
    refine wc_opt (wc42 hg h0 h1 a) (fun k hr => ?_) (fun hr => ?_)
    case refine_2 =>
      rw [hr] at hRes
      simp only [go_sem]
      exact bad hc hRes.symm
    rw [hr] at hRes
    simp only [bnd_must] at hRes
    by_cases r0 : 0 ≤ k
    case neg =>
      have q1 : (k ≥ 0) = False := by simp; omega
      rw [decide_eq_false r0, Bool.false_and, if_neg (by simp)] at hRes
      simp only [g0, q1, go_sem, ne_up1, ne_up2, ne_up3, ne_up4, ne_up5, ne_up6, Nat.reduceEqDiff, Nat.reduceLT]
      refine wc_must hg h0 h1 (fun h => by cases h) (fun _ => ?_)
      simp only [go_sem]
      exact bad hc hRes.symm
    by_cases r1 : k ≤ 4096
    case neg =>
      have q1 : (k ≥ 0) = True := by simp; omega
      rw [decide_eq_false r1, Bool.and_false, if_neg (by simp)] at hRes
      simp only [g0, q1, r1, go_sem, ne_up1, ne_up2, ne_up3, ne_up4, ne_up5, ne_up6, Nat.reduceEqDiff, Nat.reduceLT]
      refine wc_must hg h0 h1 (fun h => by cases h) (fun _ => ?_)
      simp only [go_sem]
      exact bad hc hRes.symm
    have q1 : (k ≥ 0) = True := by simp; omega
    rw [decide_eq_true r0, decide_eq_true r1, Bool.true_and, if_pos rfl] at hRes
    simp only [g0, q1, r1, go_sem, ne_up1, ne_up2, ne_up3, ne_up4, ne_up5, ne_up6, Nat.reduceEqDiff, Nat.reduceLT]
    refine wc_must hg h0 h1 (fun _ => ?_) (fun h => by cases h)
    simp only [go_sem]
    obtain ⟨nk, rfl⟩ := Int.eq_ofNat_of_zero_le r0
    simp only [Int.toNat_natCast] at hRes r0 r1 ⊢
    rw [bnd] at hRes
    have hstart : RowIn S0 intG 3 1 B2 (fun v => .blk [.c (.str nm), v, i64 a0, i64 a1, i64 a2, i64 a3, i64 a4, i64 b0, i64 b1, i64 b2, i64 b3, i64 b4, i64 b5] 0 48) ((rb, rdO ls j' (songCA s pv sv iv)) :: (Ls ++ R)) [] (.c .nils) T4 := .nil hc rfl
    refine wloop_measW (fun m' e S' => ∃ (f jj : Nat) (acc : List Int) (v : AV), m' = nk - acc.length ∧ acc.length ≤ nk ∧ nk ≤ f + acc.length ∧ 1 ≤ jj ∧ jj ≤ ls.length ∧
      RowIn S0 intG 3 1 B2 (fun v => .blk [.c (.str nm), v, i64 a0, i64 a1, i64 a2, i64 a3, i64 a4, i64 b0, i64 b1, i64 b2, i64 b3, i64 b4, i64 b5] 0 48) ((rb, rdO ls jj (songCA s pv sv iv)) :: (Ls ++ R)) acc v S' ∧
      dataR nk f acc ls jj = dataR nk nk [] ls j' ∧ e.get 0 = .ref rb 0 ∧ e.get 6 = .ref B2 0 ∧ e.get 7 = i64 nk) ?_ nk _ _ ?_
    · rintro m' e S' ⟨f, jj, acc, v, rfl, hal, hf, hj1, hj2, hin, hrow, g0, g6, g7⟩
      by_cases hlt : acc.length < nk
      case pos =>
        have hgB := hin.fr.get1
        refine wcode_sound ?_
        simp only [g6, hgB, go_sem, Nat.reduceAdd, Nat.reduceLT]
        refine resK_cut (fun e' T' => T' = S' ∧ e'.get 0 = .ref rb 0 ∧ e'.get 6 = .ref B2 0 ∧ e'.get 7 = i64 nk ∧ e'.get 91 = boolV (decide ((acc.length : Int) < (nk : Int)))) ?_ ?_
        · cases hin with
          | nil h hl0 =>
            subst hl0
            simp only [g0, g6, g7, go_sem, ne_up1, Int.cast_ofNat_Int, Nat.reduceEqDiff, Nat.reduceLT]
          | row h hpos =>
            simp only [g0, g6, g7, go_sem, ne_up1, Nat.reduceEqDiff, Nat.reduceLT]
        · rintro e' T' ⟨rfl, g0, g6, g7, g91⟩
          have q1 : decide ((acc.length : Int) < (nk : Int)) = true := by simp; omega
          rw [q1] at g91
          obtain ⟨f, rfl⟩ : ∃ g, f = g + 1 := ⟨f - 1, by omega⟩
          have q2 : (acc.length : Int) < (nk : Int) := by omega
          rw [dataR, if_pos q2, bnd_line] at hrow
          simp only [g0, g91, go_sem, Nat.reduceLT]
          refine wc_rd (wc44r hin.next_get hj2 hls) (fun l j2 hl hj1' hj2' => ?_) (fun k j2 hl => ?_) (fun j2 hl => ?_)
          case refine_2 =>
            rw [hl] at hrow
            simp only at hrow
            rw [← hrow] at hRes
            simp only [go_sem]
            exact bad (hin.put_next _).fr hRes.symm
          case refine_3 =>
            rw [hl] at hrow
            simp only at hrow
            rw [← hrow] at hRes
            simp only [go_sem]
            exact short (hin.put_next _).fr hRes.symm
          rw [hl] at hrow
          simp only [bnd_must] at hrow
          have hin2 := hin.put_next (rdO ls j2 (songCA s pv sv iv))
          generalize T'.put rb (rdO ls j2 (songCA s pv sv iv)) = S2 at hin2 ⊢
          have hl' := hll l (lineR_mem hl)
          have hrd := hin2.next_get
          have h0' : (1 : Int) ≤ (j2 : Int) := by omega
          have h1' : (j2 : Int) ≤ 4000000000 := by omega
          have hwl := split_length l [32]
          simp only [go_sem, Nat.reduceLT]
          refine wc_is (wc39 (hkn hin2.fr) l [32] (by omega) (by decide)) ?_
          have hwne := split_ne l [32]
          generalize hws : Lib.split l [32] = ws at *
          have hsz : allSize 1 (ws.map FV.str) = true := allSize_strs _
          have hgB2 := hin2.fr.get1
          simp only [g0, g6, g7, hgB2, List.length_map, go_sem, ne_up1, ne_up2, Nat.reduceAdd, Nat.reduceEqDiff, Nat.reduceLT]
          have hwr : IntKind.i64.wrap ((nk : Int) - (acc.length : Int)) = (nk : Int) - (acc.length : Int) := wrap_i64 _ (by omega) (by omega)
          refine resK_cut (fun e' T' => T' = S2 ∧ ((ws.length : Int) ≤ 32 ∧ (ws.length : Int) ≤ (nk : Int) - acc.length) ∧ e'.get 0 = .ref rb 0 ∧ e'.get 6 = .ref B2 0 ∧ e'.get 7 = i64 nk ∧ e'.get 8 = wordsV ws) ?_ ?_
          · by_cases hcd : (ws.length : Int) ≤ 32 ∧ (ws.length : Int) ≤ (nk : Int) - acc.length
            · have hmin : ((ws.length : Int) ≤ min 32 ((nk : Int) - (acc.length : Int))) = True := by simp; omega
              cases hin2 with
              | nil h hl0 =>
                subst hl0
                have hwr : IntKind.i64.wrap ((nk : Int) - 0) = (nk : Int) - 0 := wrap_i64 _ (by omega) (by omega)
                have hmin : ((ws.length : Int) ≤ min 32 ((nk : Int) - 0)) = True := by simp at hcd ⊢; omega
                simp only [hwr, hmin, go_sem, ne_up1, ne_up2, ne_up3, ne_up4, ne_up5, ne_up6, Int.cast_ofNat_Int, Nat.reduceEqDiff, Nat.reduceLT]
                refine wc_must hrd h0' h1' (fun _ => ?_) (fun h => by cases h)
                simp only [go_sem, ne_up1, ne_up2, Nat.reduceEqDiff]
                exact ⟨hcd, g0, g6, g7⟩
              | row h hpos =>
                simp only [hwr, hmin, go_sem, ne_up1, ne_up2, ne_up3, ne_up4, ne_up5, ne_up6, Nat.reduceEqDiff, Nat.reduceLT]
                refine wc_must hrd h0' h1' (fun _ => ?_) (fun h => by cases h)
                simp only [go_sem, ne_up1, ne_up2, Nat.reduceEqDiff]
                exact ⟨hcd, g0, g6, g7⟩
            · have hmin : ((ws.length : Int) ≤ min 32 ((nk : Int) - (acc.length : Int))) = False := by simp; omega
              have hb : (decide ((ws.length : Int) ≤ 32) && decide ((ws.length : Int) ≤ (nk : Int) - acc.length)) = false := by
                rw [Bool.and_eq_false_iff, decide_eq_false_iff_not, decide_eq_false_iff_not]; omega
              rw [hb, if_neg (by simp)] at hrow
              rw [← hrow] at hRes
              cases hin2 with
              | nil h hl0 =>
                subst hl0
                have hwr : IntKind.i64.wrap ((nk : Int) - 0) = (nk : Int) - 0 := wrap_i64 _ (by omega) (by omega)
                have hmin : ((ws.length : Int) ≤ min 32 ((nk : Int) - 0)) = False := by simp at hcd ⊢; omega
                simp only [hwr, hmin, go_sem, ne_up1, ne_up2, ne_up3, ne_up4, ne_up5, ne_up6, Int.cast_ofNat_Int, Nat.reduceEqDiff, Nat.reduceLT]
                refine wc_must hrd h0' h1' (fun h => by cases h) (fun _ => ?_)
                simp only [go_sem]
                exact bad h hRes.symm
              | row h hpos =>
                simp only [hwr, hmin, go_sem, ne_up1, ne_up2, ne_up3, ne_up4, ne_up5, ne_up6, Nat.reduceEqDiff, Nat.reduceLT]
                refine wc_must hrd h0' h1' (fun h => by cases h) (fun _ => ?_)
                simp only [go_sem]
                exact bad h hRes.symm
          · rintro e' T' ⟨rfl, hcd, g0, g6, g7, g8⟩
            rw [decide_eq_true hcd.1, decide_eq_true hcd.2, Bool.and_self, if_pos rfl, bnd_lift] at hrow
            simp only [go_sem]
            refine wdraw_plan ch52x10 pp52x10 (by kernel_rfl) (by kernel_rfl) (by kernel_rfl) ?_
            simp only [g0, g6, g7, g8, hgB2, go_sem, ne_up1, Nat.reduceAdd, Nat.reduceEqDiff, Nat.reduceLT]
            refine wc_opt (wc48 hrd h0' h1' ws (by omega)) (fun n hn' => ?_) (fun hn' => ?_)
            case refine_2 =>
              rw [hn'] at hrow
              simp only at hrow
              rw [← hrow] at hRes
              simp only [go_sem]
              try intro _
              exact bad hin2.fr hRes.symm
            rw [hn'] at hrow
            simp only at hrow
            have hnl := nums_len hn'
            have hnpos : 0 < n.length := by
              rw [hnl]
              cases ws with
              | nil => exact absurd rfl hwne
              | cons x r => simp
            have hszr : allSize 1 (n.map intV) = true := allSize_map (s := 1) intV (fun _ => rfl) n
            have hfl := flat_ints n
            have hn0 : (n.length = 0) = False := eq_false (by omega)
            have hrc : (rowC intG n).length = n.length := by rw [rowC_length intG (s := 1) (fun _ => rfl), Nat.mul_one]
            cases hin2 with
            | nil h hl0 =>
              subst hl0
              have hB := h.get1
              have hBn : (T'.next = B2) = False := h.new_ne (List.mem_cons_self ..)
              have z1 : n.length * 8 ≤ 140737488355328 := by omega
              simp only [t3b, t3s, t3z, size_one, Option.map_some, Nat.mul_one, Nat.zero_add, Nat.zero_le, List.drop_zero, List.length_map, g0, g6, g7, hB, hBn, hszr, hfl, hn0, hrc, z1, go_sem, maxLenA, ne_up1, ne_up2, ne_up3, ne_up4, Option.some.injEq, Nat.reduceAdd, Nat.reduceEqDiff, Nat.reduceLT, Nat.reduceLeDiff]
              refine ⟨nk - ([] ++ n : List Int).length, by simp; omega, f, j2, [] ++ n, .sl T'.next 0 n.length 1 false, rfl, by simp at hcd hf ⊢; omega, by simp at hcd hf ⊢; omega, hj1', hj2', ?_, hrow⟩
              exact RowIn.firstV (X := (fun v => .blk [.c (.str nm), v, i64 a0, i64 a1, i64 a2, i64 a3, i64 a4, i64 b0, i64 b1, i64 b2, i64 b3, i64 b4, i64 b5] 0 48)) (g := intG) (U := 3) (s := 1) h n hnpos
            | row h hpos =>
              rename_i b
              have hb := h.get1
              have hB := h.drop.get1
              have hbB : (b = B2) = False := eq_false (h.apart (List.mem_cons_self ..))
              have hBb : (B2 = b) = False := eq_false (fun e => h.apart (List.mem_cons_self ..) e.symm)
              have hbn : (T'.next = b) = False := h.new_ne (List.mem_cons_self ..)
              have hBn : (T'.next = B2) = False := h.drop.new_ne (List.mem_cons_self ..)
              have hrca : (rowC intG acc).length = acc.length := by rw [rowC_length intG (s := 1) (fun _ => rfl), Nat.mul_one]
              have zt : (rowC intG acc).take acc.length = rowC intG acc := List.take_of_length_le (by omega)
              have z1 : (acc.length + n.length) * 8 ≤ 140737488355328 := by omega
              have z2 : ¬ (acc.length + n.length ≤ acc.length) := by omega
              simp only [t3b, t3s, t3z, size_one, Option.map_some, Nat.mul_one, Nat.zero_add, Nat.zero_le, List.drop_zero, List.length_map, g0, g6, g7, hb, hB, hbB, hBn, hszr, hfl, hn0, hrc, hrca, zt, z1, z2, Nat.le_refl, go_sem, maxLenA, ne_up1, ne_up2, ne_up3, ne_up4, Option.some.injEq, Nat.reduceAdd, Nat.reduceSub, Nat.reduceEqDiff, Nat.reduceLT, Nat.reduceLeDiff]
              refine ⟨nk - (acc ++ n).length, by simp; omega, f, j2, acc ++ n, .sl T'.next 0 (acc.length + n.length) 1 false, rfl, by simp at hcd hf ⊢; omega, by simp at hcd hf ⊢; omega, hj1', hj2', ?_, hrow⟩
              exact RowIn.moreV (X := (fun v => .blk [.c (.str nm), v, i64 a0, i64 a1, i64 a2, i64 a3, i64 a4, i64 b0, i64 b1, i64 b2, i64 b3, i64 b4, i64 b5] 0 48)) (g := intG) (U := 3) (s := 1) h n hpos
      case neg =>
        have hal' : acc.length = nk := by omega
        have q1 : ¬ ((acc.length : Int) < (nk : Int)) := by omega
        have hd : dataR nk f acc ls jj = .ok acc jj := by
          cases f with
          | zero => rw [dataR, if_neg q1]; rfl
          | succ f => rw [dataR, if_neg q1]; rfl
        rw [← hrow, hd] at hRes
        simp only [pureR] at hRes
        obtain ⟨T2, href, hc2⟩ := hin.closeUp (P := Tryz.prog) (C := fun v => [.c (.str nm), v, i64 a0, i64 a1, i64 a2, i64 a3, i64 a4, i64 b0, i64 b1, i64 b2, i64 b3, i64 b4, i64 b5]) (ro := 0) (i := 1) (U2 := 48) (e := intV) (fun T b hT => frz_ints hT) (fun _ => rfl) (fun _ => rfl) (fun _ _ => rfl)
        refine w_refine href (wcode_sound ?_)
        have hgB := hc2.get1
        have hrow2 : RowIn S0 smpG 48 13 rb (fun v => rdO ls jj (songCA s pv v iv)) ((B2, .blk [.c (.str nm), .c (intsV acc), i64 a0, i64 a1, i64 a2, i64 a3, i64 a4, i64 b0, i64 b1, i64 b2, i64 b3, i64 b4, i64 b5] 0 48) :: R) s.samples sv T2 := hs.toIn (hc2.perm ((List.Perm.swap ..).trans (List.Perm.cons _ List.perm_middle.symm)))
        have hBl : B2 < T2.next := hc2.lt (List.mem_cons_self ..)
        have hBr : (rb = B2) = False := eq_false (fun e => hc2.apart (List.mem_cons_self ..) e.symm)
        have hBr' : (B2 = rb) = False := eq_false (hc2.apart (List.mem_cons_self ..))
        have hBn : (T2.next = B2) = False := eq_false (by omega)
        have hBn1 : (T2.next + 1 = B2) = False := eq_false (by omega)
        simp only [g6, g7, hgB, q1, List.length_map, go_sem, ne_up1, Nat.reduceAdd, Nat.reduceEqDiff, Nat.reduceLT]
        refine wdraw_plan ch52x11 pp52x11 (by kernel_rfl) (by kernel_rfl) (by kernel_rfl) ?_
        rw [← hRes]
        cases hrow2 with
        | nil h hl0 =>
          have hgr := h.get1
          have hrl : rb < T2.next := h.lt (List.mem_cons_self ..)
          have hrn1 : (T2.next = rb) = False := eq_false (by omega)
          have hrn2 : (T2.next + 1 = rb) = False := eq_false (by omega)
          simp only [Option.map_some, Nat.zero_add, Nat.zero_le, Nat.zero_mul, List.drop_zero, List.map_cons, List.map_nil, t48b, t48s, z48, s48, g0, g6, hgB, hgr, hBn, hBn1, hrn1, hrn2, go_sem, maxLenA, ne_up1, ne_up2, ne_up3, ne_up4, ne_up5, ne_up6, Option.some.injEq, Nat.reduceAdd, Nat.reduceMul, Nat.reduceEqDiff, Nat.reduceLT, Nat.reduceLeDiff]
          refine ends_now ⟨rfl, ?_, hj1, hj2⟩
          obtain ⟨Ls', hs', hc'⟩ := (RowIn.first (X := fun v => rdO ls jj (songCA s pv v iv)) (g := smpG) (U := 48) (s := 13) h ({ name := nm, data := acc, bits := a0, rate := a1, volume := a2, pan := a3, fine := a4, lp := b0, start := b1, stop := b2, sus := b3, susStart := b4, susEnd := b5 } : SmpV) (.blk [.c (.str nm), .c (intsV acc), i64 a0, i64 a1, i64 a2, i64 a3, i64 a4, i64 b0, i64 b1, i64 b2, i64 b3, i64 b4, i64 b5] 0 48)).toL
          have hc' := hc'.sub (List.Sublist.cons_cons _ ((List.Sublist.refl _).append (List.sublist_cons_self _ R)))
          rw [← hRR] at hc'
          exact ⟨pv, _, iv, Lp, Ls', Li, hp, by rw [hl0]; exact hs', hv, hc'.perm (List.Perm.cons _ (List.perm_append_comm_assoc Ls' Lp (Li ++ F)))⟩
        | @row b _ h hpos =>
          have hgb := h.get1
          have hgr := h.drop.get1
          have hrl : rb < T2.next := h.drop.lt (List.mem_cons_self ..)
          have hbl : b < T2.next := h.lt (List.mem_cons_self ..)
          have hrn1 : (T2.next = rb) = False := eq_false (by omega)
          have hrn2 : (T2.next + 1 = rb) = False := eq_false (by omega)
          have hbn1 : (T2.next = b) = False := eq_false (by omega)
          have hbn2 : (T2.next + 1 = b) = False := eq_false (by omega)
          have hbr : (b = rb) = False := eq_false (h.apart (List.mem_cons_self ..))
          have hbr' : (rb = b) = False := eq_false (fun e => h.apart (List.mem_cons_self ..) e.symm)
          have hbB : (b = B2) = False := eq_false (fun e => h.apart (p := (B2, _)) (List.mem_cons_of_mem _ (List.mem_cons_self ..)) e)
          have hbB' : (B2 = b) = False := eq_false (fun e => h.apart (p := (B2, _)) (List.mem_cons_of_mem _ (List.mem_cons_self ..)) e.symm)
          have hrc : (rowC smpG s.samples).length = s.samples.length * 13 := rowC_length smpG (s := 13) (fun _ => rfl) s.samples
          have zt : (rowC smpG s.samples).take (s.samples.length * 13) = rowC smpG s.samples := List.take_of_length_le (by omega)
          have z1 : (s.samples.length + 1) * 128 ≤ 140737488355328 := by omega
          have z2 : ¬ ((s.samples.length + 1) * 13 ≤ s.samples.length * 13) := by omega
          simp only [Option.map_some, Nat.zero_add, Nat.zero_le, Nat.zero_mul, List.drop_zero, List.map_cons, List.map_nil, t48b, t48s, z48, s48, g0, g6, hgB, hgr, hgb, hBn, hBn1, hrn1, hrn2, hbn1, hbr, hbB, hrc, zt, z1, z2, Nat.le_refl, go_sem, maxLenA, ne_up1, ne_up2, ne_up3, ne_up4, ne_up5, ne_up6, Option.some.injEq, Nat.reduceAdd, Nat.reduceSub, Nat.reduceMul, Nat.reduceEqDiff, Nat.reduceLT, Nat.reduceLeDiff]
          refine ends_now ⟨rfl, ?_, hj1, hj2⟩
          obtain ⟨Ls', hs', hc'⟩ := (RowIn.more (X := fun v => rdO ls jj (songCA s pv v iv)) (g := smpG) (U := 48) (s := 13) h ({ name := nm, data := acc, bits := a0, rate := a1, volume := a2, pan := a3, fine := a4, lp := b0, start := b1, stop := b2, sus := b3, susStart := b4, susEnd := b5 } : SmpV) (.blk [.c (.str nm), .c (intsV acc), i64 a0, i64 a1, i64 a2, i64 a3, i64 a4, i64 b0, i64 b1, i64 b2, i64 b3, i64 b4, i64 b5] 0 48)).toL
          have hc' := hc'.sub (List.Sublist.cons_cons _ ((List.Sublist.refl _).append (List.sublist_cons_self _ R)))
          rw [← hRR] at hc'
          exact ⟨pv, _, iv, Lp, Ls', Li, hp, hs', hv, hc'.perm (List.Perm.cons _ (List.perm_append_comm_assoc Ls' Lp (Li ++ F)))⟩
    · exact ⟨nk, j', [], _, rfl, Nat.zero_le _, Nat.le_refl _, hj1, hj2', hstart, rfl, by simp only [g0, go_sem, ne_up4, ne_up5, ne_up6, Nat.reduceEqDiff], by simp only [go_sem, ne_up1, ne_dn1, Nat.reduceEqDiff], by simp only [go_sem, Nat.reduceEqDiff]⟩
end
end Go.Proofs.YtgjnimemofmncaaGreatDoor

namespace Go.Proofs.YtgjnimemofmncaaGreatDoor
open Go.Abs Go.Tx
set_option maxHeartbeats 4000000
set_option maxRecDepth 20000
theorem t54b : Tryz.t54.bytes = 336 := rfl
theorem t54s : Tryz.t54.size = 33 := rfl
theorem t54z : ∃ a, Tryz.t54.zero = some (.agg a) ∧ a.size = 33 := ⟨_, rfl, rfl⟩
theorem t95b : Tryz.t95.bytes = 16 := rfl
theorem t95s : Tryz.t95.size = 2 := rfl
theorem t95z : ∃ a, Tryz.t95.zero = some (.agg a) ∧ a.size = 2 := ⟨_, rfl, rfl⟩
theorem bnd_env {α : Type} {ls : List Bs} {i : Nat} (w : Bs) (f : EnvV → Rd α) : bnd (envR w) f ls i = (match envR w ls i with | .ok a j => f a ls j | .bad j => .bad j | .short => .short) := by
  unfold bnd
  cases envR w ls i <;> rfl
section
variable {S0 T : St} {rb i : Nat} {ls : List Bs} {s : SongV} {F : List (Nat × Ob)} {m : Int}
theorem wc53 (hS0 : Shut S0) (hk : S0.known = KN m) (hls : ls.length ≤ 1000000000) (hll : ∀ l ∈ ls, l.length ≤ 1000000) (h : RDx S0 rb ls i s F T) (hi1 : 1 ≤ i) (hi : i ≤ ls.length) (line : Bs) (hline : line.length ≤ 1000000) :
    WC Tryz.prog 53 [.ref rb 0, str line] (RdX S0 rb ls F (fun x => { s with insts := s.insts ++ [x] }) (insR s.insts.length line ls i)) T := by
  obtain ⟨pv, sv, iv, Lp, Ls, Li, hp, hs, hv, hc⟩ := h
  obtain ⟨a54, z54, s54⟩ := t54z
  obtain ⟨a95, z95, s95⟩ := t95z
  have hperm : (Lp ++ (Ls ++ (Li ++ F))).Perm (Li ++ (Lp ++ (Ls ++ F))) := ((List.perm_append_comm_assoc Ls Li F).append_left Lp).trans (List.perm_append_comm_assoc Lp Li (Ls ++ F))
  have hc := hc.perm (List.Perm.cons _ hperm)
  generalize hRR : Lp ++ (Ls ++ F) = R at hc
  have hkn : ∀ {L : List (Nat × Ob)} {T : St}, FR S0 L T → T.known = KN m := fun h => h.known.trans hk
  generalize hRes : insR s.insts.length line ls i = res
  have bad : ∀ {L : List (Nat × Ob)} {T : St} {k : Int}, FR S0 L T → res = .bad k → RdX S0 rb ls F (fun x => { s with insts := s.insts ++ [x] }) res (.panic (stopV 2 k)) T := fun h e => by
    subst e; exact ⟨rfl, h.fwd hS0⟩
  have short : ∀ {L : List (Nat × Ob)} {T : St}, FR S0 L T → res = .short → RdX S0 rb ls F (fun x => { s with insts := s.insts ++ [x] }) res (.panic (stopV 12 ls.length)) T := fun h e => by
    subst e; exact ⟨rfl, h.fwd hS0⟩
  have h0 : (1 : Int) ≤ (i : Int) := by omega
  have h1 : (i : Int) ≤ 4000000000 := by omega
  have hg := hc.get1
  rw [insR, bnd_must] at hRes
  refine wc_fn (fn := Tryz.f53) (N := 106) (rs := []) (by rfl) (by kernel_rfl) (by rfl) (by rfl) (by rfl) (by rfl) fun hS => ?_
  simp only [hg, go_sem, Nat.reduceAdd, Nat.reduceEqDiff, Nat.reduceLT, Int.reduceNeg]
  refine resK_cut (fun e' T' => T' = T ∧ s.insts.length < 31 ∧ e'.get 0 = .ref rb 0 ∧ e'.get 1 = str line) ?_ ?_
  · rcases hv with ⟨hl⟩ | ⟨b, hl⟩
    · rw [hl] at hRes ⊢
      simp only [go_sem, ne_up1, ne_up2, ne_up3, ne_up4, ne_up5, ne_up6, Int.cast_ofNat_Int, Nat.reduceEqDiff, Nat.reduceLT, Int.reduceLT]
      refine wc_must hg h0 h1 (fun _ => ?_) (fun h => by cases h)
      simp only [go_sem, ne_dn1, Nat.reduceEqDiff]
    · by_cases hn : s.insts.length < 31
      · have q1 : ((s.insts.length : Int) < 31) = True := by simp; omega
        simp only [q1, go_sem, ne_up1, ne_up2, ne_up3, ne_up4, ne_up5, ne_up6, Nat.reduceEqDiff, Nat.reduceLT]
        refine wc_must hg h0 h1 (fun _ => ?_) (fun h => by cases h)
        simp only [go_sem, ne_dn1, Nat.reduceEqDiff]
        exact hn
      · have q1 : ((s.insts.length : Int) < 31) = False := by simp; omega
        simp only [q1, go_sem, ne_up1, ne_up2, ne_up3, ne_up4, ne_up5, ne_up6, Nat.reduceEqDiff, Nat.reduceLT]
        refine wc_must hg h0 h1 (fun h => by cases h) (fun _ => ?_)
        simp only [go_sem]
        rw [decide_eq_false hn, if_neg (by simp)] at hRes
        exact bad hc hRes.symm
  · rintro e' T' ⟨rfl, hn, g0, g1⟩
    rw [decide_eq_true hn, if_pos rfl, bnd_lift] at hRes
    simp only [g0, g1, go_sem, ne_up1, Nat.reduceEqDiff, Nat.reduceLT, Int.reduceNeg]
    refine wc_opt (wc80 hg h0 h1 (hkn hc) line wInst 7 (by omega) (by decide) (by omega)) (fun p hp' => ?_) (fun hp' => ?_)
    case refine_2.refine_2 =>
      rw [hp'] at hRes
      simp only [go_sem, Int.reduceNeg]
      exact bad hc hRes.symm
    rw [hp'] at hRes
    have hl7 := namedO_len hp'
    obtain ⟨nm, l⟩ := p
    simp only at hl7
    obtain ⟨a0, a1, a2, a3, a4, a5, a6, rfl⟩ : ∃ a0 a1 a2 a3 a4 a5 a6, l = [a0, a1, a2, a3, a4, a5, a6] := by
      match l, hl7 with
      | [a0, a1, a2, a3, a4, a5, a6], _ => exact ⟨_, _, _, _, _, _, _, rfl⟩
    clear hl7 hp'
    simp only [List.getD_cons_zero, List.getD_cons_succ, wordR, bnd_assoc, bnd_line] at hRes
    have hszn : allSize 1 [FV.int .i64 a0, FV.int .i64 a1, FV.int .i64 a2, FV.int .i64 a3, FV.int .i64 a4, FV.int .i64 a5, FV.int .i64 a6] = true := rfl
    simp only [go_sem, ne_up1, ne_up4, Nat.reduceEqDiff, Nat.reduceLT, Int.reduceNeg]
    refine wdraw_plan ch53x2 pp53x2 (by kernel_rfl) (by kernel_rfl) (by kernel_rfl) ?_
    simp only [g0, hszn, List.map_cons, List.map_nil, List.length_cons, List.length_nil, List.getElem?_cons_zero, List.getElem?_cons_succ, Option.map_some, go_sem, put_new, ne_up1, ne_up2, ne_up3, ne_up4, ne_up5, ne_up6, Option.some.injEq, Nat.reduceAdd, Nat.reduceEqDiff, Nat.reduceLT, Nat.reduceLeDiff, Int.reduceLT, Int.reduceToNat, Int.reduceNeg]
    have hc := hc.new (.blk [.c (.str nm), .c .nils, .c (.bool false), .c .nils, .c (.bool false), i64 0, i64 0, .c (.bool false), i64 0, i64 0, .c (.bool false), .c .nils, .c (.bool false), i64 0, i64 0, .c (.bool false), i64 0, i64 0, .c (.bool false), .c .nils, .c (.bool false), i64 0, i64 0, .c (.bool false), i64 0, i64 0, i64 a0, i64 a1, i64 a2, i64 a3, i64 a4, i64 a5, i64 a6] 0 54)
    generalize hB : T'.next = B2 at *
    generalize T'.new (.blk [.c (.str nm), .c .nils, .c (.bool false), .c .nils, .c (.bool false), i64 0, i64 0, .c (.bool false), i64 0, i64 0, .c (.bool false), .c .nils, .c (.bool false), i64 0, i64 0, .c (.bool false), i64 0, i64 0, .c (.bool false), .c .nils, .c (.bool false), i64 0, i64 0, .c (.bool false), i64 0, i64 0, i64 a0, i64 a1, i64 a2, i64 a3, i64 a4, i64 a5, i64 a6] 0 54) = T1 at hc ⊢
    have hg : T1.get rb = some (rdO ls i (songCA s pv sv iv)) := hc.drop.get1
    refine wc_rd (wc44r hg hi hls) (fun l j hl hj1 hj2 => ?_) (fun k j hl => ?_) (fun j hl => ?_)
    case refine_2 =>
      rw [hl] at hRes
      simp only [go_sem, Int.reduceNeg]
      exact bad (FR.put_mid (L1 := [_]) hc _) hRes.symm
    case refine_3 =>
      rw [hl] at hRes
      simp only [go_sem, Int.reduceNeg]
      exact short (FR.put_mid (L1 := [_]) hc _) hRes.symm
    rw [hl] at hRes
    simp only [bnd_lift] at hRes
    have hc := FR.put_mid (L1 := [_]) hc (rdO ls j (songCA s pv sv iv))
    generalize T1.put rb (rdO ls j (songCA s pv sv iv)) = T2 at hc ⊢
    have hg : T2.get rb = some (rdO ls j (songCA s pv sv iv)) := hc.drop.get1
    have h0 : (1 : Int) ≤ (j : Int) := by omega
    have h1 : (j : Int) ≤ 4000000000 := by omega
    have hl' := hll l (lineR_mem hl)
    simp only [go_sem, ne_up1, ne_up2, Nat.reduceLT, Int.reduceNeg]
    refine wc_opt (wc43 hg h0 h1 (hkn hc) l wKeys (-1) (by omega) (by omega) (by omega)) (fun v hv' => ?_) (fun hv' => ?_)
    case refine_2 =>
      rw [hv'] at hRes
      simp only [go_sem, Int.reduceNeg]
      exact bad hc hRes.symm
    rw [hv'] at hRes
    simp only [bnd_must] at hRes
    by_cases hv0 : v.length = 0 ∨ v.length = 120
    case neg =>
      have e1 : ((v.length : Int) == 0) = false := by rw [beq_eq_false_iff_ne]; omega
      have e2 : ((v.length : Int) == 120) = false := by rw [beq_eq_false_iff_ne]; omega
      have e3 : (decide (v.length = 0) || decide (v.length = 120)) = false := by rw [Bool.or_eq_false_iff, decide_eq_false_iff_not, decide_eq_false_iff_not]; omega
      rw [e3, if_neg (by simp)] at hRes
      simp only [g0, e1, e2, Bool.not_false, List.length_map, go_sem, ne_up1, ne_up2, ne_up3, ne_up4, ne_up5, ne_up6, Nat.reduceEqDiff, Nat.reduceLT, Int.reduceNeg]
      refine wc_must hg h0 h1 (fun h => by cases h) (fun _ => ?_)
      simp only [go_sem]
      exact bad hc hRes.symm
    have e3 : (decide (v.length = 0) || decide (v.length = 120)) = true := by rw [Bool.or_eq_true, decide_eq_true_eq, decide_eq_true_eq]; omega
    rw [e3, if_pos rfl, bnd_lift] at hRes
    simp only [go_sem, ne_up4, ne_up5, ne_up6, Nat.reduceEqDiff, Nat.reduceLT, Int.reduceNeg]
    refine guardK_cut (fun e' T' => T' = T2 ∧ e'.get 0 = .ref rb 0 ∧ e'.get 6 = .ref B2 0 ∧ e'.get 7 = wordsV v) ?_ ?_
    · rcases hv0 with hv0 | hv0
      · have e1 : ((v.length : Int) == 0) = true := by rw [beq_iff_eq]; omega
        simp only [g0, e1, Bool.not_true, go_sem, ne_up1, ne_up2, ne_up3, ne_up4, ne_up5, ne_up6, Nat.reduceEqDiff, Nat.reduceLT]
        refine wc_must hg h0 h1 (fun _ => ?_) (fun h => by cases h)
        simp only [g0, go_sem, ne_up1, ne_up4, ne_up5, ne_up6, Nat.reduceEqDiff]
      · have e1 : ((v.length : Int) == 0) = false := by rw [beq_eq_false_iff_ne]; omega
        have e2 : ((v.length : Int) == 120) = true := by rw [beq_iff_eq]; omega
        simp only [g0, e1, e2, Bool.not_false, List.length_map, go_sem, ne_up1, ne_up2, ne_up3, ne_up4, ne_up5, ne_up6, Nat.reduceEqDiff, Nat.reduceLT]
        refine wc_must hg h0 h1 (fun _ => ?_) (fun h => by cases h)
        simp only [g0, go_sem, ne_up1, ne_up4, ne_up5, ne_up6, Nat.reduceEqDiff]
    rintro e' T' ⟨rfl, g0, g6, g7⟩
    simp only [g7, List.length_map, go_sem, Nat.reduceLT]
    have hstart : RowIn S0 ptC 95 2 B2 (fun v => .blk [.c (.str nm), v, .c (.bool false), .c .nils, .c (.bool false), i64 0, i64 0, .c (.bool false), i64 0, i64 0, .c (.bool false), .c .nils, .c (.bool false), i64 0, i64 0, .c (.bool false), i64 0, i64 0, .c (.bool false), .c .nils, .c (.bool false), i64 0, i64 0, .c (.bool false), i64 0, i64 0, i64 a0, i64 a1, i64 a2, i64 a3, i64 a4, i64 a5, i64 a6] 0 54) ((rb, rdO ls j (songCA s pv sv iv)) :: (Li ++ R)) [] (.c .nils) T' := .nil hc rfl
    have hszr : allSize 1 (v.map FV.str) = true := allSize_strs _
    refine wloop_measW (fun m' e S' => ∃ (i' : Nat) (ps : List (Int × Int)) (x : AV), m' = v.length - i' ∧ i' ≤ v.length ∧ ps.length = i' ∧
      RowIn S0 ptC 95 2 B2 (fun v => .blk [.c (.str nm), v, .c (.bool false), .c .nils, .c (.bool false), i64 0, i64 0, .c (.bool false), i64 0, i64 0, .c (.bool false), .c .nils, .c (.bool false), i64 0, i64 0, .c (.bool false), i64 0, i64 0, .c (.bool false), .c .nils, .c (.bool false), i64 0, i64 0, .c (.bool false), i64 0, i64 0, i64 a0, i64 a1, i64 a2, i64 a3, i64 a4, i64 a5, i64 a6] 0 54) ((rb, rdO ls j (songCA s pv sv iv)) :: (Li ++ R)) ps x S' ∧
      (allO pairO (v.drop i')).map (ps ++ ·) = allO pairO v ∧ e.get 0 = .ref rb 0 ∧ e.get 6 = .ref B2 0 ∧ e.get 64 = wordsV v ∧ e.get 65 = i64 v.length ∧ e.get 66 = i64 i') ?_ v.length _ _ ?_
    · rintro m' e S' ⟨i', ps, x, rfl, hi', hps, hin, hm, g0, g6, g64, g65, g66⟩
      have hrd := hin.next_get
      rcases Nat.lt_or_ge i' v.length with hlt' | hge
      · have q1 : ((i' : Int) < (v.length : Int)) := by omega
        have q2 : ¬ ((i' : Int) < 0) := by omega
        have q3 : (v.map FV.str)[i']? = some (.str v[i']) := by simp [hlt']
        have q5 := step_wrap i' (by omega)
        have hwl : v[i'].length ≤ 4000000000 := by
          have := wordsO_sum hv' (v[i']) (by simp)
          omega
        rw [allO_drop pairO v i' hlt'] at hm
        refine wcode_sound ?_
        simp only [g0, g64, g65, g66, q1, q2, q3, hlt', hszr, List.length_map, Int.toNat_natCast, Option.map_some, go_sem, ne_up1, ne_up3, Nat.reduceEqDiff, Nat.reduceLT]
        refine wc_opt (wc81 hrd h0 h1 (hkn hin.fr) v[i'] hwl) (fun p hp => ?_) (fun hp => ?_)
        case refine_2 =>
          rw [hp] at hm
          have hm : none = allO pairO v := hm
          rw [← hm] at hRes
          simp only [go_sem]
          exact bad hin.fr hRes.symm
        rw [hp] at hm
        have hm' : (allO pairO (v.drop (i' + 1))).map (ps ++ [p] ++ ·) = allO pairO v := by
          rw [← hm]
          cases allO pairO (v.drop (i' + 1)) <;> simp
        cases hin with
        | nil h hl0 =>
          subst hl0
          have hB := h.get1
          have hBn : (S'.next = B2) = False := h.new_ne (List.mem_cons_self ..)
          have hBn1 : (S'.next + 1 = B2) = False := eq_false (by have := h.lt (List.mem_cons_self ..); omega)
          simp only [Option.map_some, Nat.zero_add, Nat.zero_le, Nat.zero_mul, List.drop_zero, List.map_cons, List.map_nil, t95b, t95s, z95, s95, g0, g6, g64, g65, g66, q5, hB, hBn, hBn1, go_sem, maxLenA, ne_up1, ne_up2, ne_up3, ne_up4, ne_up5, ne_up6, Nat.reduceAdd, Nat.reduceMul, Nat.reduceEqDiff, Nat.reduceLT, Nat.reduceLeDiff]
          refine ⟨v.length - (i' + 1), by omega, i' + 1, [p], .sl (S'.next + 1) 0 1 2 false, rfl, by omega, by rw [← hps]; rfl, ?_, hm', rfl⟩
          exact RowIn.first (X := fun v => .blk [.c (.str nm), v, .c (.bool false), .c .nils, .c (.bool false), i64 0, i64 0, .c (.bool false), i64 0, i64 0, .c (.bool false), .c .nils, .c (.bool false), i64 0, i64 0, .c (.bool false), i64 0, i64 0, .c (.bool false), .c .nils, .c (.bool false), i64 0, i64 0, .c (.bool false), i64 0, i64 0, i64 a0, i64 a1, i64 a2, i64 a3, i64 a4, i64 a5, i64 a6] 0 54) (g := ptC) h p _
        | @row b _ h hpos =>
          have hb := h.get1
          have hB := h.drop.get1
          have hbB : (b = B2) = False := eq_false (h.apart (List.mem_cons_self ..))
          have hBb : (B2 = b) = False := eq_false (fun e => h.apart (List.mem_cons_self ..) e.symm)
          have hbn : (S'.next = b) = False := h.new_ne (List.mem_cons_self ..)
          have hbn1 : (S'.next + 1 = b) = False := eq_false (by have := h.lt (List.mem_cons_self ..); omega)
          have hBn : (S'.next = B2) = False := h.drop.new_ne (List.mem_cons_self ..)
          have hBn1 : (S'.next + 1 = B2) = False := eq_false (by have := h.drop.lt (List.mem_cons_self ..); omega)
          have hrc : (rowC ptC ps).length = ps.length * 2 := rowC_length ptC (s := 2) (fun _ => rfl) ps
          have zt : (rowC ptC ps).take (ps.length * 2) = rowC ptC ps := List.take_of_length_le (by omega)
          have z1 : (ps.length + 1) * 16 ≤ 140737488355328 := by omega
          have z2 : ¬ ((ps.length + 1) * 2 ≤ ps.length * 2) := by omega
          simp only [Option.map_some, Nat.zero_add, Nat.zero_le, Nat.zero_mul, List.drop_zero, List.map_cons, List.map_nil, t95b, t95s, z95, s95, g0, g6, g64, g65, g66, q5, hb, hB, hbB, hbn, hBn, hBn1, hrc, zt, z1, z2, Nat.le_refl, go_sem, maxLenA, ne_up1, ne_up2, ne_up3, ne_up4, ne_up5, ne_up6, Nat.reduceAdd, Nat.reduceSub, Nat.reduceMul, Nat.reduceEqDiff, Nat.reduceLT, Nat.reduceLeDiff]
          refine ⟨v.length - (i' + 1), by omega, i' + 1, ps ++ [p], .sl (S'.next + 1) 0 (ps.length + 1) 2 false, rfl, by omega, by rw [List.length_append, hps]; rfl, ?_, hm', rfl⟩
          exact RowIn.more (X := fun v => .blk [.c (.str nm), v, .c (.bool false), .c .nils, .c (.bool false), i64 0, i64 0, .c (.bool false), i64 0, i64 0, .c (.bool false), .c .nils, .c (.bool false), i64 0, i64 0, .c (.bool false), i64 0, i64 0, .c (.bool false), .c .nils, .c (.bool false), i64 0, i64 0, .c (.bool false), i64 0, i64 0, i64 a0, i64 a1, i64 a2, i64 a3, i64 a4, i64 a5, i64 a6] 0 54) (g := ptC) h p _
      · have q1 : ¬ ((i' : Int) < (v.length : Int)) := by omega
        rw [List.drop_eq_nil_of_le hge] at hm
        simp only [allO, Option.map_some, List.append_nil] at hm
        rw [← hm] at hRes
        simp only [bnd_env] at hRes
        obtain ⟨T1, href, hc⟩ := hin.closeUp (P := Tryz.prog) (C := fun v => [.c (.str nm), v, .c (.bool false), .c .nils, .c (.bool false), i64 0, i64 0, .c (.bool false), i64 0, i64 0, .c (.bool false), .c .nils, .c (.bool false), i64 0, i64 0, .c (.bool false), i64 0, i64 0, .c (.bool false), .c .nils, .c (.bool false), i64 0, i64 0, .c (.bool false), i64 0, i64 0, i64 a0, i64 a1, i64 a2, i64 a3, i64 a4, i64 a5, i64 a6]) (ro := 0) (i := 1) (U2 := 54) (e := keyV) (fun T b hT => frz_rows (s := 2) (fun _ => rfl) ag95 sz95 hT) (fun _ => rfl) (fun _ => rfl) (fun _ _ => rfl)
        refine w_refine href (wcode_sound ?_)
        have hg : T1.get rb = some (rdO ls j (songCA s pv sv iv)) := hc.drop.get1
        simp only [g0, g65, g66, q1, go_sem, Nat.reduceEqDiff, Nat.reduceLT]
        refine wc_rd (wc82 hg hj2 hls hll (hkn hc) wVolume) (fun ev1 n1 hE1 hN1a hN1b => ?_) (fun k jx hE1 => ?_) (fun jx hE1 => ?_)
        case refine_2 =>
          rw [hE1] at hRes
          simp only [go_sem]
          exact bad (FR.put_mid (L1 := [_]) hc _) hRes.symm
        case refine_3 =>
          rw [hE1] at hRes
          simp only [go_sem]
          exact short (FR.put_mid (L1 := [_]) hc _) hRes.symm
        rw [hE1] at hRes
        simp only [pureR] at hRes
        have hc := FR.put_mid (L1 := [_]) hc (rdO ls n1 (songCA s pv sv iv))
        generalize T1.put rb (rdO ls n1 (songCA s pv sv iv)) = T2 at hc ⊢
        have hg : T2.get rb = some (rdO ls n1 (songCA s pv sv iv)) := hc.drop.get1
        simp only [g0, go_sem, Nat.reduceEqDiff, Nat.reduceLT]
        refine wc_rd (wc82 hg hN1b hls hll (hkn hc) wPanning) (fun ev2 n2 hE2 hN2ba hN2b => ?_) (fun k jx hE2 => ?_) (fun jx hE2 => ?_)
        case refine_2 =>
          rw [hE2] at hRes
          simp only [go_sem]
          exact bad (FR.put_mid (L1 := [_]) hc _) hRes.symm
        case refine_3 =>
          rw [hE2] at hRes
          simp only [go_sem]
          exact short (FR.put_mid (L1 := [_]) hc _) hRes.symm
        rw [hE2] at hRes
        simp only [] at hRes
        have hc := FR.put_mid (L1 := [_]) hc (rdO ls n2 (songCA s pv sv iv))
        generalize T2.put rb (rdO ls n2 (songCA s pv sv iv)) = T3 at hc ⊢
        have hg : T3.get rb = some (rdO ls n2 (songCA s pv sv iv)) := hc.drop.get1
        simp only [g0, go_sem, Nat.reduceEqDiff, Nat.reduceLT]
        refine wc_rd (wc82 hg hN2b hls hll (hkn hc) wPitch) (fun ev3 n3 hE3 hN3a hN3b => ?_) (fun k jx hE3 => ?_) (fun jx hE3 => ?_)
        case refine_2 =>
          rw [hE3] at hRes
          simp only [go_sem]
          exact bad (FR.put_mid (L1 := [_]) hc _) hRes.symm
        case refine_3 =>
          rw [hE3] at hRes
          simp only [go_sem]
          exact short (FR.put_mid (L1 := [_]) hc _) hRes.symm
        rw [hE3] at hRes
        simp only [] at hRes
        have hc := FR.put_mid (L1 := [_]) hc (rdO ls n3 (songCA s pv sv iv))
        generalize T3.put rb (rdO ls n3 (songCA s pv sv iv)) = T4 at hc ⊢
        have hg : T4.get rb = some (rdO ls n3 (songCA s pv sv iv)) := hc.drop.get1
        have hgB0 := hc.get1
        simp only [g6, hgB0, go_sem, put_put, ne_up1, ne_up2, ne_up3, ne_up4, ne_up5, Nat.reduceAdd, Nat.reduceEqDiff, Nat.reduceLT, Nat.reduceLeDiff]
        have hc := hc.put (.blk [.c (.str nm), .c (.sl (ps.map keyV)), .c (.bool ev1.on), .c (ptsV ev1.points), .c (.bool ev1.sus), i64 ev1.susStart, i64 ev1.susEnd, .c (.bool ev1.lp), i64 ev1.lpStart, i64 ev1.lpEnd, .c (.bool ev2.on), .c (ptsV ev2.points), .c (.bool ev2.sus), i64 ev2.susStart, i64 ev2.susEnd, .c (.bool ev2.lp), i64 ev2.lpStart, i64 ev2.lpEnd, .c (.bool ev3.on), .c (ptsV ev3.points), .c (.bool ev3.sus), i64 ev3.susStart, i64 ev3.susEnd, .c (.bool ev3.lp), i64 ev3.lpStart, i64 ev3.lpEnd, i64 a0, i64 a1, i64 a2, i64 a3, i64 a4, i64 a5, i64 a6] 0 54)
        generalize T4.put B2 (.blk [.c (.str nm), .c (.sl (ps.map keyV)), .c (.bool ev1.on), .c (ptsV ev1.points), .c (.bool ev1.sus), i64 ev1.susStart, i64 ev1.susEnd, .c (.bool ev1.lp), i64 ev1.lpStart, i64 ev1.lpEnd, .c (.bool ev2.on), .c (ptsV ev2.points), .c (.bool ev2.sus), i64 ev2.susStart, i64 ev2.susEnd, .c (.bool ev2.lp), i64 ev2.lpStart, i64 ev2.lpEnd, .c (.bool ev3.on), .c (ptsV ev3.points), .c (.bool ev3.sus), i64 ev3.susStart, i64 ev3.susEnd, .c (.bool ev3.lp), i64 ev3.lpStart, i64 ev3.lpEnd, i64 a0, i64 a1, i64 a2, i64 a3, i64 a4, i64 a5, i64 a6] 0 54) = T5 at hc ⊢
        have hgB := hc.get1
        have hrow2 : RowIn S0 insG 54 33 rb (fun v => rdO ls n3 (songCA s pv sv v)) ((B2, .blk [.c (.str nm), .c (.sl (ps.map keyV)), .c (.bool ev1.on), .c (ptsV ev1.points), .c (.bool ev1.sus), i64 ev1.susStart, i64 ev1.susEnd, .c (.bool ev1.lp), i64 ev1.lpStart, i64 ev1.lpEnd, .c (.bool ev2.on), .c (ptsV ev2.points), .c (.bool ev2.sus), i64 ev2.susStart, i64 ev2.susEnd, .c (.bool ev2.lp), i64 ev2.lpStart, i64 ev2.lpEnd, .c (.bool ev3.on), .c (ptsV ev3.points), .c (.bool ev3.sus), i64 ev3.susStart, i64 ev3.susEnd, .c (.bool ev3.lp), i64 ev3.lpStart, i64 ev3.lpEnd, i64 a0, i64 a1, i64 a2, i64 a3, i64 a4, i64 a5, i64 a6] 0 54) :: R) s.insts iv T5 := hv.toIn (hc.perm ((List.Perm.swap ..).trans (List.Perm.cons _ List.perm_middle.symm)))
        have hBl : B2 < T5.next := hc.lt (List.mem_cons_self ..)
        have hBr : (rb = B2) = False := eq_false (fun e => hc.apart (List.mem_cons_self ..) e.symm)
        have hBr' : (B2 = rb) = False := eq_false (hc.apart (List.mem_cons_self ..))
        have hBn : (T5.next = B2) = False := eq_false (by omega)
        have hBn1 : (T5.next + 1 = B2) = False := eq_false (by omega)
        refine wdraw_plan ch53x12 pp53x12 (by kernel_rfl) (by kernel_rfl) (by kernel_rfl) ?_
        rw [← hRes]
        cases hrow2 with
        | nil h hl0 =>
          have hgr := h.get1
          have hrl : rb < T5.next := h.lt (List.mem_cons_self ..)
          have hrn1 : (T5.next = rb) = False := eq_false (by omega)
          have hrn2 : (T5.next + 1 = rb) = False := eq_false (by omega)
          simp only [Option.map_some, Nat.zero_add, Nat.zero_le, Nat.zero_mul, List.drop_zero, List.map_cons, List.map_nil, t54b, t54s, z54, s54, g0, g6, hgB, hgr, hBn, hBn1, hrn1, hrn2, go_sem, maxLenA, ne_up1, ne_up2, ne_up3, ne_up4, ne_up5, ne_up6, Option.some.injEq, Nat.reduceAdd, Nat.reduceMul, Nat.reduceEqDiff, Nat.reduceLT, Nat.reduceLeDiff]
          refine ends_now ⟨rfl, ?_, hN3a, hN3b⟩
          obtain ⟨Ls', hs', hc'⟩ := (RowIn.first (X := fun v => rdO ls n3 (songCA s pv sv v)) (g := insG) (U := 54) (s := 33) h ({ name := nm, keys := ps, volume := ev1, panning := ev2, pitch := ev3, fade := a0, newNote := a1, dup := a2, dupDo := a3, global := a4, cutoff := a5, reso := a6 } : InsV) (.blk [.c (.str nm), .c (.sl (ps.map keyV)), .c (.bool ev1.on), .c (ptsV ev1.points), .c (.bool ev1.sus), i64 ev1.susStart, i64 ev1.susEnd, .c (.bool ev1.lp), i64 ev1.lpStart, i64 ev1.lpEnd, .c (.bool ev2.on), .c (ptsV ev2.points), .c (.bool ev2.sus), i64 ev2.susStart, i64 ev2.susEnd, .c (.bool ev2.lp), i64 ev2.lpStart, i64 ev2.lpEnd, .c (.bool ev3.on), .c (ptsV ev3.points), .c (.bool ev3.sus), i64 ev3.susStart, i64 ev3.susEnd, .c (.bool ev3.lp), i64 ev3.lpStart, i64 ev3.lpEnd, i64 a0, i64 a1, i64 a2, i64 a3, i64 a4, i64 a5, i64 a6] 0 54)).toL
          have hc' := hc'.sub (List.Sublist.cons_cons _ ((List.Sublist.refl _).append (List.sublist_cons_self _ R)))
          rw [← hRR] at hc'
          exact ⟨pv, sv, _, Lp, Ls, Ls', hp, hs, by rw [hl0]; exact hs', hc'.perm (List.Perm.cons _ ((List.perm_append_comm_assoc Ls' Lp (Ls ++ F)).trans ((List.perm_append_comm_assoc Ls' Ls F).append_left Lp)))⟩
        | @row b _ h hpos =>
          have hgb := h.get1
          have hgr := h.drop.get1
          have hrl : rb < T5.next := h.drop.lt (List.mem_cons_self ..)
          have hbl : b < T5.next := h.lt (List.mem_cons_self ..)
          have hrn1 : (T5.next = rb) = False := eq_false (by omega)
          have hrn2 : (T5.next + 1 = rb) = False := eq_false (by omega)
          have hbn1 : (T5.next = b) = False := eq_false (by omega)
          have hbn2 : (T5.next + 1 = b) = False := eq_false (by omega)
          have hbr : (b = rb) = False := eq_false (h.apart (List.mem_cons_self ..))
          have hbr' : (rb = b) = False := eq_false (fun e => h.apart (List.mem_cons_self ..) e.symm)
          have hbB : (b = B2) = False := eq_false (fun e => h.apart (p := (B2, _)) (List.mem_cons_of_mem _ (List.mem_cons_self ..)) e)
          have hbB' : (B2 = b) = False := eq_false (fun e => h.apart (p := (B2, _)) (List.mem_cons_of_mem _ (List.mem_cons_self ..)) e.symm)
          have hrc : (rowC insG s.insts).length = s.insts.length * 33 := rowC_length insG (s := 33) (fun _ => rfl) s.insts
          have zt : (rowC insG s.insts).take (s.insts.length * 33) = rowC insG s.insts := List.take_of_length_le (by omega)
          have z1 : (s.insts.length + 1) * 336 ≤ 140737488355328 := by omega
          have z2 : ¬ ((s.insts.length + 1) * 33 ≤ s.insts.length * 33) := by omega
          simp only [Option.map_some, Nat.zero_add, Nat.zero_le, Nat.zero_mul, List.drop_zero, List.map_cons, List.map_nil, t54b, t54s, z54, s54, g0, g6, hgB, hgr, hgb, hBn, hBn1, hrn1, hrn2, hbn1, hbr, hbB, hrc, zt, z1, z2, Nat.le_refl, go_sem, maxLenA, ne_up1, ne_up2, ne_up3, ne_up4, ne_up5, ne_up6, Option.some.injEq, Nat.reduceAdd, Nat.reduceSub, Nat.reduceMul, Nat.reduceEqDiff, Nat.reduceLT, Nat.reduceLeDiff]
          refine ends_now ⟨rfl, ?_, hN3a, hN3b⟩
          obtain ⟨Ls', hs', hc'⟩ := (RowIn.more (X := fun v => rdO ls n3 (songCA s pv sv v)) (g := insG) (U := 54) (s := 33) h ({ name := nm, keys := ps, volume := ev1, panning := ev2, pitch := ev3, fade := a0, newNote := a1, dup := a2, dupDo := a3, global := a4, cutoff := a5, reso := a6 } : InsV) (.blk [.c (.str nm), .c (.sl (ps.map keyV)), .c (.bool ev1.on), .c (ptsV ev1.points), .c (.bool ev1.sus), i64 ev1.susStart, i64 ev1.susEnd, .c (.bool ev1.lp), i64 ev1.lpStart, i64 ev1.lpEnd, .c (.bool ev2.on), .c (ptsV ev2.points), .c (.bool ev2.sus), i64 ev2.susStart, i64 ev2.susEnd, .c (.bool ev2.lp), i64 ev2.lpStart, i64 ev2.lpEnd, .c (.bool ev3.on), .c (ptsV ev3.points), .c (.bool ev3.sus), i64 ev3.susStart, i64 ev3.susEnd, .c (.bool ev3.lp), i64 ev3.lpStart, i64 ev3.lpEnd, i64 a0, i64 a1, i64 a2, i64 a3, i64 a4, i64 a5, i64 a6] 0 54)).toL
          have hc' := hc'.sub (List.Sublist.cons_cons _ ((List.Sublist.refl _).append (List.sublist_cons_self _ R)))
          rw [← hRR] at hc'
          exact ⟨pv, sv, _, Lp, Ls, Ls', hp, hs, hs', hc'.perm (List.Perm.cons _ ((List.perm_append_comm_assoc Ls' Lp (Ls ++ F)).trans ((List.perm_append_comm_assoc Ls' Ls F).append_left Lp)))⟩
    · exact ⟨0, [], _, rfl, Nat.zero_le _, rfl, hstart, by rw [List.drop_zero]; cases allO pairO v <;> simp, by simp only [g0, go_sem, Nat.reduceEqDiff], by simp only [g6, go_sem, Nat.reduceEqDiff], by simp only [go_sem, ne_up1, ne_up2], by simp only [go_sem, ne_up1], by simp only [go_sem, Int.cast_ofNat_Int]⟩
end
end Go.Proofs.YtgjnimemofmncaaGreatDoor

namespace Go.Proofs.YtgjnimemofmncaaGreatDoor
open Go.Abs Go.Tx
set_option maxHeartbeats 4000000
set_option maxRecDepth 20000
abbrev hdA (nm : Bs) (d ch : Int) (ov : AV) (rs sp tm gl : Int) (lin : Bool) (pv : AV) : List AV :=
  [.c (.str nm), i64 d, i64 ch, ov, i64 rs, i64 sp, i64 tm, i64 gl, .c (.bool lin), pv, .c .nils, .c .nils, .c .nils]
section
variable {S0 T : St} {rb : Nat} {ls : List Bs} {F : List (Nat × Ob)} {m : Int}
theorem wc21 (hS0 : Shut S0) (hk : S0.known = KN m) (hls : ls.length ≤ 1000000000) (hll : ∀ l ∈ ls, l.length ≤ 1000000) (hc : FR S0 ((rb, rdO ls 0 (hdA [] 0 0 (.c .nils) 0 0 0 0 false (.c .nils))) :: F) T) :
    WC Tryz.prog 21 [.ref rb 0] (RdX S0 rb ls F (fun s => s) (headR ls 0)) T := by
  have hkn : ∀ {L : List (Nat × Ob)} {T : St}, FR S0 L T → T.known = KN m := fun h => h.known.trans hk
  generalize hRes : headR ls 0 = res
  have bad : ∀ {L : List (Nat × Ob)} {T : St} {k : Int}, FR S0 L T → res = .bad k → RdX S0 rb ls F (fun s => s) res (.panic (stopV 2 k)) T := fun h e => by
    subst e; exact ⟨rfl, h.fwd hS0⟩
  have short : ∀ {L : List (Nat × Ob)} {T : St}, FR S0 L T → res = .short → RdX S0 rb ls F (fun s => s) res (.panic (stopV 12 ls.length)) T := fun h e => by
    subst e; exact ⟨rfl, h.fwd hS0⟩
  have hg := hc.get1
  simp only [headR, wordR, bnd_assoc] at hRes
  rw [bnd_line] at hRes
  refine wc_fn (fn := Tryz.f21) (N := 151) (rs := []) (by rfl) (by kernel_rfl) (by rfl) (by rfl) (by rfl) (by rfl) fun hS => ?_
  simp only [go_sem, Nat.reduceAdd, Nat.reduceEqDiff, Nat.reduceLT, Int.reduceNeg]
  generalize hT : T = T0 at *
  refine wc_rd (wc44r hg (Nat.zero_le _) hls) (fun l1 j1 hl hj1a hj1b => ?_) (fun k jx hl => ?_) (fun jx hl => ?_)
  case refine_2 =>
    rw [hl] at hRes
    simp only [go_sem, Int.reduceNeg]
    exact bad (hc.put _) hRes.symm
  case refine_3 =>
    rw [hl] at hRes
    simp only [go_sem, Int.reduceNeg]
    exact short (hc.put _) hRes.symm
  rw [hl] at hRes
  simp only [bnd_lift, bnd_must] at hRes
  have hc := hc.put (rdO ls j1 (hdA [] 0 0 (.c .nils) 0 0 0 0 false (.c .nils)))
  generalize T0.put rb (rdO ls j1 (hdA [] 0 0 (.c .nils) 0 0 0 0 false (.c .nils))) = T1 at hc ⊢
  have hg : T1.get rb = some (rdO ls j1 (hdA [] 0 0 (.c .nils) 0 0 0 0 false (.c .nils))) := hc.get1
  have h0 : (1 : Int) ≤ (j1 : Int) := by omega
  have h1 : (j1 : Int) ≤ 4000000000 := by omega
  have hl1' := hll l1 (lineR_mem hl)
  simp only [go_sem, ne_up1, ne_up2, Nat.reduceLT, Int.reduceNeg]
  refine wc_opt (wc43 hg h0 h1 (hkn hc) l1 wOrch 1 (by omega) (by omega) (by omega)) (fun w1 hw1 => ?_) (fun hw1 => ?_)
  case refine_2 =>
    rw [hw1] at hRes
    simp only [go_sem, Int.reduceNeg]
    exact bad hc hRes.symm
  rw [hw1] at hRes
  simp only [] at hRes
  obtain ⟨a1, rfl⟩ := wordsO_one hw1
  simp only [List.getD_cons_zero] at hRes
  have z1 : (0 : Nat) < 0 + 1 := by omega
  have hsza : allSize 1 [FV.str a1] = true := rfl
  simp only [z1, hsza, List.map_cons, List.map_nil, List.length_cons, List.length_nil, List.getElem?_cons_zero, Option.map_some, go_sem, ne_up1, ne_up2, ne_up3, ne_up4, ne_up5, ne_up6, Nat.reduceAdd, Nat.reduceLT, Int.reduceLT, Int.reduceToNat, Int.reduceNeg]
  refine wc_opt (wc42 hg h0 h1 a1) (fun v1 hv1 => ?_) (fun hv1 => ?_)
  case refine_2 =>
    rw [hv1] at hRes
    simp only [go_sem, Int.reduceNeg]
    exact bad hc hRes.symm
  rw [hv1] at hRes
  simp only [] at hRes
  cases hb1 : v1 == 1 with
  | false =>
    rw [hb1, if_neg (by simp)] at hRes
    simp only [hb1, go_sem, ne_up1, ne_up2, ne_up3, ne_up4, ne_up5, ne_up6, Nat.reduceEqDiff, Nat.reduceLT, Int.reduceNeg]
    refine wc_must hg h0 h1 (fun h => by cases h) (fun _ => ?_)
    simp only [go_sem, Int.reduceNeg]
    exact bad hc hRes.symm
  | true =>
  rw [hb1, if_pos rfl] at hRes
  simp only [hb1, go_sem, ne_up1, ne_up2, ne_up3, ne_up4, ne_up5, ne_up6, Nat.reduceEqDiff, Nat.reduceLT, Int.reduceNeg]
  refine wc_must hg h0 h1 (fun _ => ?_) (fun h => by cases h)
  try simp only [bnd_assoc] at hRes
  rw [bnd_line] at hRes
  simp only [go_sem, Nat.reduceEqDiff, Nat.reduceLT, Int.reduceNeg]
  refine wc_rd (wc44r hg hj1b hls) (fun l2 j2 hl hj2a hj2b => ?_) (fun k jx hl => ?_) (fun jx hl => ?_)
  case refine_2 =>
    rw [hl] at hRes
    simp only [go_sem, Int.reduceNeg]
    exact bad (hc.put _) hRes.symm
  case refine_3 =>
    rw [hl] at hRes
    simp only [go_sem, Int.reduceNeg]
    exact short (hc.put _) hRes.symm
  rw [hl] at hRes
  simp only [bnd_lift, bnd_must] at hRes
  have hc := hc.put (rdO ls j2 (hdA [] 0 0 (.c .nils) 0 0 0 0 false (.c .nils)))
  generalize T1.put rb (rdO ls j2 (hdA [] 0 0 (.c .nils) 0 0 0 0 false (.c .nils))) = T2 at hc ⊢
  have hg : T2.get rb = some (rdO ls j2 (hdA [] 0 0 (.c .nils) 0 0 0 0 false (.c .nils))) := hc.get1
  have h0 : (1 : Int) ≤ (j2 : Int) := by omega
  have h1 : (j2 : Int) ≤ 4000000000 := by omega
  have hl2' := hll l2 (lineR_mem hl)
  simp only [go_sem, ne_up2, Nat.reduceEqDiff, Nat.reduceLT, Int.reduceNeg]
  refine wc_is (wc45 _ _ _) ?_
  cases hb2 : Lib.hasPrefix l2 (wName ++ [32]) with
  | false =>
    rw [hb2, if_neg (by simp)] at hRes
    have hb2x : Lib.hasPrefix l2 [110, 97, 109, 101, 32] = false := hb2
    simp only [hb2x, go_sem, ne_up1, ne_up2, Nat.reduceLT, Int.reduceNeg]
    refine wc_must hg h0 h1 (fun h => by cases h) (fun _ => ?_)
    simp only [go_sem, Int.reduceNeg]
    exact bad hc hRes.symm
  | true =>
  rw [hb2, if_pos rfl] at hRes
  have hb2x : Lib.hasPrefix l2 [110, 97, 109, 101, 32] = true := hb2
  simp only [hb2x, go_sem, ne_up1, ne_up2, Nat.reduceLT, Int.reduceNeg]
  refine wc_must hg h0 h1 (fun _ => ?_) (fun h => by cases h)
  have hl5 : 5 ≤ l2.length := by
    have := (List.isPrefixOf_iff_prefix (l₁ := wName ++ [32]) (l₂ := l2)).1 hb2
    exact this.length_le
  have ez : (l2.drop 5).take (l2.length - 5) = l2.drop 5 := List.take_of_length_le (by rw [List.length_drop]; omega)
  simp only [hl5, Nat.le_refl, List.take_length, go_sem, ne_up1, ne_up2, Nat.reduceEqDiff, Nat.reduceLT, Int.reduceLE, Int.reduceToNat, Int.reduceNeg]
  refine wc_opt (wc46 hg h0 h1 (l2.drop 5) (by rw [List.length_drop]; omega)) (fun nr hnr => ?_) (fun hnr => ?_)
  case refine_2 =>
    rw [hnr] at hRes
    simp only [go_sem, Int.reduceNeg]
    exact bad hc hRes.symm
  rw [hnr] at hRes
  simp only [] at hRes
  obtain ⟨nm, rest⟩ := nr
  simp only at hRes
  cases hb3 : rest == [] with
  | false =>
    rw [hb3, if_neg (by simp)] at hRes
    skip
    simp only [hb3, go_sem, ne_up1, ne_up2, ne_up3, ne_up4, ne_up5, Nat.reduceEqDiff, Nat.reduceLT, Int.reduceNeg]
    refine wc_must hg h0 h1 (fun h => by cases h) (fun _ => ?_)
    simp only [go_sem, Int.reduceNeg]
    exact bad hc hRes.symm
  | true =>
  rw [hb3, if_pos rfl] at hRes
  skip
  simp only [hb3, go_sem, ne_up1, ne_up2, ne_up3, ne_up4, ne_up5, Nat.reduceEqDiff, Nat.reduceLT, Int.reduceNeg]
  refine wc_must hg h0 h1 (fun _ => ?_) (fun h => by cases h)
  try simp only [bnd_assoc] at hRes
  rw [bnd_line] at hRes
  simp only [hg, go_sem, ne_up1, ne_up2, ne_up3, ne_up4, Nat.reduceAdd, Nat.reduceEqDiff, Nat.reduceLT, Nat.reduceLeDiff, Int.reduceNeg]
  have hc := hc.put (rdO ls j2 (hdA nm 0 0 (.c .nils) 0 0 0 0 false (.c .nils)))
  generalize T2.put rb (rdO ls j2 (hdA nm 0 0 (.c .nils) 0 0 0 0 false (.c .nils))) = T3 at hc ⊢
  have hg : T3.get rb = some (rdO ls j2 (hdA nm 0 0 (.c .nils) 0 0 0 0 false (.c .nils))) := hc.get1
  refine wc_rd (wc44r hg hj2b hls) (fun l4 j4 hl hj4a hj4b => ?_) (fun k jx hl => ?_) (fun jx hl => ?_)
  case refine_2 =>
    rw [hl] at hRes
    simp only [go_sem, Int.reduceNeg]
    exact bad (hc.put _) hRes.symm
  case refine_3 =>
    rw [hl] at hRes
    simp only [go_sem, Int.reduceNeg]
    exact short (hc.put _) hRes.symm
  rw [hl] at hRes
  simp only [bnd_lift] at hRes
  have hc := hc.put (rdO ls j4 (hdA nm 0 0 (.c .nils) 0 0 0 0 false (.c .nils)))
  generalize T3.put rb (rdO ls j4 (hdA nm 0 0 (.c .nils) 0 0 0 0 false (.c .nils))) = T4 at hc ⊢
  have hg : T4.get rb = some (rdO ls j4 (hdA nm 0 0 (.c .nils) 0 0 0 0 false (.c .nils))) := hc.get1
  have h0 : (1 : Int) ≤ (j4 : Int) := by omega
  have h1 : (j4 : Int) ≤ 4000000000 := by omega
  have hl4' := hll l4 (lineR_mem hl)
  simp only [go_sem, ne_up1, ne_up2, Nat.reduceLT, Int.reduceNeg]
  refine wc_opt (wc43 hg h0 h1 (hkn hc) l4 wDialect 1 (by omega) (by omega) (by omega)) (fun w4 hw4 => ?_) (fun hw4 => ?_)
  case refine_2 =>
    rw [hw4] at hRes
    simp only [go_sem, Int.reduceNeg]
    exact bad hc hRes.symm
  rw [hw4] at hRes
  simp only [] at hRes
  obtain ⟨a4, rfl⟩ := wordsO_one hw4
  simp only [List.getD_cons_zero] at hRes
  have z1 : (0 : Nat) < 0 + 1 := by omega
  have hsza : allSize 1 [FV.str a4] = true := rfl
  simp only [z1, hsza, List.map_cons, List.map_nil, List.length_cons, List.length_nil, List.getElem?_cons_zero, Option.map_some, go_sem, ne_up1, ne_up2, ne_up3, ne_up4, ne_up5, ne_up6, Nat.reduceAdd, Nat.reduceLT, Int.reduceLT, Int.reduceToNat, Int.reduceNeg]
  refine wc_opt (wc47 hg h0 h1 a4) (fun d hd => ?_) (fun hd => ?_)
  case refine_2 =>
    rw [hd] at hRes
    simp only [go_sem, Int.reduceNeg]
    exact bad hc hRes.symm
  rw [hd] at hRes
  simp only [] at hRes
  try simp only [bnd_assoc] at hRes
  rw [bnd_line] at hRes
  simp only [hg, go_sem, ne_up1, ne_up2, ne_up3, ne_up4, ne_up5, ne_up6, Nat.reduceAdd, Nat.reduceEqDiff, Nat.reduceLT, Nat.reduceLeDiff, Int.reduceNeg]
  have hc := hc.put (rdO ls j4 (hdA nm d 0 (.c .nils) 0 0 0 0 false (.c .nils)))
  generalize T4.put rb (rdO ls j4 (hdA nm d 0 (.c .nils) 0 0 0 0 false (.c .nils))) = T5 at hc ⊢
  have hg : T5.get rb = some (rdO ls j4 (hdA nm d 0 (.c .nils) 0 0 0 0 false (.c .nils))) := hc.get1
  refine wc_rd (wc44r hg hj4b hls) (fun l6 j6 hl hj6a hj6b => ?_) (fun k jx hl => ?_) (fun jx hl => ?_)
  case refine_2 =>
    rw [hl] at hRes
    simp only [go_sem, Int.reduceNeg]
    exact bad (hc.put _) hRes.symm
  case refine_3 =>
    rw [hl] at hRes
    simp only [go_sem, Int.reduceNeg]
    exact short (hc.put _) hRes.symm
  rw [hl] at hRes
  simp only [bnd_lift] at hRes
  have hc := hc.put (rdO ls j6 (hdA nm d 0 (.c .nils) 0 0 0 0 false (.c .nils)))
  generalize T5.put rb (rdO ls j6 (hdA nm d 0 (.c .nils) 0 0 0 0 false (.c .nils))) = T6 at hc ⊢
  have hg : T6.get rb = some (rdO ls j6 (hdA nm d 0 (.c .nils) 0 0 0 0 false (.c .nils))) := hc.get1
  have h0 : (1 : Int) ≤ (j6 : Int) := by omega
  have h1 : (j6 : Int) ≤ 4000000000 := by omega
  have hl6' := hll l6 (lineR_mem hl)
  simp only [go_sem, ne_up1, ne_up2, Nat.reduceLT, Int.reduceNeg]
  refine wc_opt (wc43 hg h0 h1 (hkn hc) l6 wChannels 1 (by omega) (by omega) (by omega)) (fun w6 hw6 => ?_) (fun hw6 => ?_)
  case refine_2 =>
    rw [hw6] at hRes
    simp only [go_sem, Int.reduceNeg]
    exact bad hc hRes.symm
  rw [hw6] at hRes
  simp only [] at hRes
  obtain ⟨a6, rfl⟩ := wordsO_one hw6
  simp only [List.getD_cons_zero] at hRes
  have z1 : (0 : Nat) < 0 + 1 := by omega
  have hsza : allSize 1 [FV.str a6] = true := rfl
  simp only [z1, hsza, List.map_cons, List.map_nil, List.length_cons, List.length_nil, List.getElem?_cons_zero, Option.map_some, go_sem, ne_up1, ne_up2, ne_up3, ne_up4, ne_up5, ne_up6, Nat.reduceAdd, Nat.reduceLT, Int.reduceLT, Int.reduceToNat, Int.reduceNeg]
  refine wc_opt (wc42 hg h0 h1 a6) (fun ch hch => ?_) (fun hch => ?_)
  case refine_2 =>
    rw [hch] at hRes
    simp only [go_sem, Int.reduceNeg]
    exact bad hc hRes.symm
  rw [hch] at hRes
  simp only [] at hRes
  try simp only [bnd_assoc] at hRes
  rw [bnd_line] at hRes
  simp only [hg, go_sem, ne_up1, ne_up2, ne_up3, ne_up4, ne_up5, ne_up6, Nat.reduceAdd, Nat.reduceEqDiff, Nat.reduceLT, Nat.reduceLeDiff, Int.reduceNeg]
  have hc := hc.put (rdO ls j6 (hdA nm d ch (.c .nils) 0 0 0 0 false (.c .nils)))
  generalize T6.put rb (rdO ls j6 (hdA nm d ch (.c .nils) 0 0 0 0 false (.c .nils))) = T7 at hc ⊢
  have hg : T7.get rb = some (rdO ls j6 (hdA nm d ch (.c .nils) 0 0 0 0 false (.c .nils))) := hc.get1
  refine wc_rd (wc44r hg hj6b hls) (fun l8 j8 hl hj8a hj8b => ?_) (fun k jx hl => ?_) (fun jx hl => ?_)
  case refine_2 =>
    rw [hl] at hRes
    simp only [go_sem, Int.reduceNeg]
    exact bad (hc.put _) hRes.symm
  case refine_3 =>
    rw [hl] at hRes
    simp only [go_sem, Int.reduceNeg]
    exact short (hc.put _) hRes.symm
  rw [hl] at hRes
  simp only [bnd_lift] at hRes
  have hc := hc.put (rdO ls j8 (hdA nm d ch (.c .nils) 0 0 0 0 false (.c .nils)))
  generalize T7.put rb (rdO ls j8 (hdA nm d ch (.c .nils) 0 0 0 0 false (.c .nils))) = T8 at hc ⊢
  have hg : T8.get rb = some (rdO ls j8 (hdA nm d ch (.c .nils) 0 0 0 0 false (.c .nils))) := hc.get1
  have h0 : (1 : Int) ≤ (j8 : Int) := by omega
  have h1 : (j8 : Int) ≤ 4000000000 := by omega
  have hl8' := hll l8 (lineR_mem hl)
  simp only [go_sem, ne_up1, ne_up2, Nat.reduceLT, Int.reduceNeg]
  refine wc_opt (wc43 hg h0 h1 (hkn hc) l8 wPlay 5 (by omega) (by omega) (by omega)) (fun w8 hw8 => ?_) (fun hw8 => ?_)
  case refine_2 =>
    rw [hw8] at hRes
    simp only [go_sem, Int.reduceNeg]
    exact bad hc hRes.symm
  rw [hw8] at hRes
  simp only [] at hRes
  have hw5 : w8.length = 5 := wordsO_len (n := 5) hw8
  simp only [go_sem, ne_up1, ne_up2, ne_up3, ne_up4, ne_up5, Nat.reduceEqDiff, Nat.reduceLT, Int.reduceNeg]
  refine wc_opt (wc48 hg h0 h1 w8 (by omega)) (fun p hp => ?_) (fun hp => ?_)
  case refine_2 =>
    rw [hp] at hRes
    simp only [go_sem, Int.reduceNeg]
    exact bad hc hRes.symm
  rw [hp] at hRes
  simp only [] at hRes
  have hp5 := nums_len hp
  rw [hw5] at hp5
  obtain ⟨p0, p1, p2, p3, p4, rfl⟩ : ∃ p0 p1 p2 p3 p4, p = [p0, p1, p2, p3, p4] := by
    match p, hp5 with
    | [p0, p1, p2, p3, p4], _ => exact ⟨_, _, _, _, _, rfl⟩
  obtain ⟨y0, y1, y2, y3, y4, rfl⟩ : ∃ y0 y1 y2 y3 y4, w8 = [y0, y1, y2, y3, y4] := by
    match w8, hw5 with
    | [y0, y1, y2, y3, y4], _ => exact ⟨_, _, _, _, _, rfl⟩
  clear hp5 hw5 hp
  simp only [List.getD_cons_zero, List.getD_cons_succ] at hRes
  have hszn : allSize 1 [FV.int .i64 p0, FV.int .i64 p1, FV.int .i64 p2, FV.int .i64 p3, FV.int .i64 p4] = true := rfl
  have hszy : allSize 1 [FV.str y0, FV.str y1, FV.str y2, FV.str y3, FV.str y4] = true := rfl
  simp only [go_sem, Nat.reduceLT, Int.reduceNeg]
  refine wdraw_plan ch21x10 pp21x10 (by kernel_rfl) (by kernel_rfl) (by kernel_rfl) ?_
  simp only [hg, hszn, hszy, List.map_cons, List.map_nil, List.length_cons, List.length_nil, List.getElem?_cons_zero, List.getElem?_cons_succ, Option.map_some, go_sem, put_put, ne_up1, ne_up2, ne_up3, ne_up4, ne_up5, ne_up6, Nat.reduceAdd, Nat.reduceEqDiff, Nat.reduceLT, Nat.reduceLeDiff, Int.reduceLT, Int.reduceToNat, Int.reduceNeg]
  have hc := hc.put (rdO ls j8 (hdA nm d ch (.c .nils) p4 p0 p1 p2 false (.c .nils)))
  generalize T8.put rb (rdO ls j8 (hdA nm d ch (.c .nils) p4 p0 p1 p2 false (.c .nils))) = T9 at hc ⊢
  have hg : T9.get rb = some (rdO ls j8 (hdA nm d ch (.c .nils) p4 p0 p1 p2 false (.c .nils))) := hc.get1
  refine wc_opt (wc49 hg h0 h1 y3) (fun lin hlin => ?_) (fun hlin => ?_)
  case refine_2 =>
    rw [hlin] at hRes
    simp only [go_sem, Int.reduceNeg]
    exact bad hc hRes.symm
  rw [hlin] at hRes
  simp only [] at hRes
  try simp only [bnd_assoc] at hRes
  rw [bnd_line] at hRes
  simp only [hg, go_sem, ne_up1, ne_up2, ne_up3, ne_up4, ne_up5, ne_up6, Nat.reduceAdd, Nat.reduceEqDiff, Nat.reduceLT, Nat.reduceLeDiff, Int.reduceNeg]
  have hc := hc.put (rdO ls j8 (hdA nm d ch (.c .nils) p4 p0 p1 p2 lin (.c .nils)))
  generalize T9.put rb (rdO ls j8 (hdA nm d ch (.c .nils) p4 p0 p1 p2 lin (.c .nils))) = T10 at hc ⊢
  have hg : T10.get rb = some (rdO ls j8 (hdA nm d ch (.c .nils) p4 p0 p1 p2 lin (.c .nils))) := hc.get1
  refine wc_rd (wc44r hg hj8b hls) (fun l11 j11 hl hj11a hj11b => ?_) (fun k jx hl => ?_) (fun jx hl => ?_)
  case refine_2 =>
    rw [hl] at hRes
    simp only [go_sem, Int.reduceNeg]
    exact bad (hc.put _) hRes.symm
  case refine_3 =>
    rw [hl] at hRes
    simp only [go_sem, Int.reduceNeg]
    exact short (hc.put _) hRes.symm
  rw [hl] at hRes
  simp only [bnd_lift] at hRes
  have hc := hc.put (rdO ls j11 (hdA nm d ch (.c .nils) p4 p0 p1 p2 lin (.c .nils)))
  generalize T10.put rb (rdO ls j11 (hdA nm d ch (.c .nils) p4 p0 p1 p2 lin (.c .nils))) = T11 at hc ⊢
  have hg : T11.get rb = some (rdO ls j11 (hdA nm d ch (.c .nils) p4 p0 p1 p2 lin (.c .nils))) := hc.get1
  have h0 : (1 : Int) ≤ (j11 : Int) := by omega
  have h1 : (j11 : Int) ≤ 4000000000 := by omega
  have hl11' := hll l11 (lineR_mem hl)
  simp only [go_sem, ne_up1, ne_up2, Nat.reduceLT, Int.reduceNeg]
  refine wc_opt (wc43 hg h0 h1 (hkn hc) l11 wPans (-1) (by omega) (by omega) (by omega)) (fun w11 hw11 => ?_) (fun hw11 => ?_)
  case refine_2 =>
    rw [hw11] at hRes
    simp only [go_sem, Int.reduceNeg]
    exact bad hc hRes.symm
  rw [hw11] at hRes
  simp only [] at hRes
  simp only [go_sem, ne_up1, ne_up2, ne_up3, ne_up4, Nat.reduceLT, Int.reduceNeg]
  refine wc_opt (wc48 hg h0 h1 w11 (by have := wordsO_length hw11; omega)) (fun pans hpans => ?_) (fun hpans => ?_)
  case refine_2 =>
    rw [hpans] at hRes
    simp only [go_sem, Int.reduceNeg]
    exact bad hc hRes.symm
  rw [hpans] at hRes
  simp only [] at hRes
  try simp only [bnd_assoc] at hRes
  rw [bnd_line] at hRes
  simp only [hg, go_sem, ne_up1, ne_up2, ne_up3, ne_up4, ne_up5, ne_up6, Nat.reduceAdd, Nat.reduceEqDiff, Nat.reduceLT, Nat.reduceLeDiff, Int.reduceNeg]
  have hc := hc.put (rdO ls j11 (hdA nm d ch (.c .nils) p4 p0 p1 p2 lin (.c (intsV pans))))
  generalize T11.put rb (rdO ls j11 (hdA nm d ch (.c .nils) p4 p0 p1 p2 lin (.c (intsV pans)))) = T12 at hc ⊢
  have hg : T12.get rb = some (rdO ls j11 (hdA nm d ch (.c .nils) p4 p0 p1 p2 lin (.c (intsV pans)))) := hc.get1
  refine wc_rd (wc44r hg hj11b hls) (fun l13 j13 hl hj13a hj13b => ?_) (fun k jx hl => ?_) (fun jx hl => ?_)
  case refine_2 =>
    rw [hl] at hRes
    simp only [go_sem, Int.reduceNeg]
    exact bad (hc.put _) hRes.symm
  case refine_3 =>
    rw [hl] at hRes
    simp only [go_sem, Int.reduceNeg]
    exact short (hc.put _) hRes.symm
  rw [hl] at hRes
  simp only [bnd_lift, bnd_must] at hRes
  have hc := hc.put (rdO ls j13 (hdA nm d ch (.c .nils) p4 p0 p1 p2 lin (.c (intsV pans))))
  generalize T12.put rb (rdO ls j13 (hdA nm d ch (.c .nils) p4 p0 p1 p2 lin (.c (intsV pans)))) = T13 at hc ⊢
  have hg : T13.get rb = some (rdO ls j13 (hdA nm d ch (.c .nils) p4 p0 p1 p2 lin (.c (intsV pans)))) := hc.get1
  have h0 : (1 : Int) ≤ (j13 : Int) := by omega
  have h1 : (j13 : Int) ≤ 4000000000 := by omega
  have hl13' := hll l13 (lineR_mem hl)
  simp only [go_sem, ne_up1, ne_up2, Nat.reduceLT, Int.reduceNeg]
  refine wc_opt (wc43 hg h0 h1 (hkn hc) l13 wOrders (-1) (by omega) (by omega) (by omega)) (fun os hw13 => ?_) (fun hw13 => ?_)
  case refine_2 =>
    rw [hw13] at hRes
    simp only [go_sem, Int.reduceNeg]
    exact bad hc hRes.symm
  rw [hw13] at hRes
  simp only [] at hRes
  by_cases ho : os.length ≤ 64
  case neg =>
    have q1 : ((os.length : Int) ≤ 64) = False := by simp; omega
    rw [decide_eq_false ho, if_neg (by simp)] at hRes
    simp only [q1, List.length_map, go_sem, ne_up1, ne_up2, ne_up3, ne_up4, ne_up5, ne_up6, Nat.reduceEqDiff, Nat.reduceLT, Int.reduceNeg]
    refine wc_must hg h0 h1 (fun h => by cases h) (fun _ => ?_)
    simp only [go_sem]
    exact bad hc hRes.symm
  have q1 : ((os.length : Int) ≤ 64) = True := by simp; omega
  rw [decide_eq_true ho, if_pos rfl] at hRes
  simp only [q1, List.length_map, go_sem, ne_up1, ne_up2, ne_up3, ne_up4, ne_up5, ne_up6, Nat.reduceEqDiff, Nat.reduceLT, Int.reduceNeg]
  refine wc_must hg h0 h1 (fun _ => ?_) (fun h => by cases h)
  simp only [List.length_map, go_sem, Nat.reduceEqDiff, Nat.reduceLT]
  have hszr : allSize 1 (os.map FV.str) = true := allSize_strs _
  have hstart : RowIn S0 intG 3 1 rb (fun v => rdO ls j13 (hdA nm d ch v p4 p0 p1 p2 lin (.c (intsV pans)))) F [] (.c .nils) T13 := .nil hc rfl
  refine wloop_measW (fun m' e S' => ∃ (i' : Nat) (ps : List Int) (x : AV), m' = os.length - i' ∧ i' ≤ os.length ∧ ps.length = i' ∧
    RowIn S0 intG 3 1 rb (fun v => rdO ls j13 (hdA nm d ch v p4 p0 p1 p2 lin (.c (intsV pans)))) F ps x S' ∧
    (allO orderO (os.drop i')).map (ps ++ ·) = allO orderO os ∧ e.get 0 = .ref rb 0 ∧ e.get 130 = wordsV os ∧ e.get 131 = i64 os.length ∧ e.get 132 = i64 i') ?_ os.length _ _ ?_
  · rintro m' e S' ⟨i', ps, x, rfl, hi', hps, hin, hm, g0, g130, g131, g132⟩
    have hrd := hin.fr.get1
    rcases Nat.lt_or_ge i' os.length with hlt' | hge
    · have q1 : ((i' : Int) < (os.length : Int)) := by omega
      have q2 : ¬ ((i' : Int) < 0) := by omega
      have q3 : (os.map FV.str)[i']? = some (.str os[i']) := by simp [hlt']
      have q5 := step_wrap i' (by omega)
      rw [allO_drop orderO os i' hlt'] at hm
      refine wcode_sound ?_
      simp only [g130, g131, g132, q1, q2, q3, hlt', hszr, List.length_map, Int.toNat_natCast, Option.map_some, go_sem, ne_up1, ne_up3, Nat.reduceLT]
      refine wdraw_plan ch21x18 pp21x18 (by kernel_rfl) (by kernel_rfl) (by kernel_rfl) ?_
      simp only [g0, g130, g131, g132, hrd, go_sem, ne_up1, ne_up2, ne_up3, ne_up4, ne_up5, ne_up6, Nat.reduceAdd, Nat.reduceEqDiff, Nat.reduceLT]
      refine wc_opt (wc50 hrd h0 h1 os[i']) (fun p hp => ?_) (fun hp => ?_)
      case refine_2 =>
        rw [hp] at hm
        have hm : none = allO orderO os := hm
        rw [← hm] at hRes
        simp only [go_sem]
        try intro _
        exact bad hin.fr hRes.symm
      rw [hp] at hm
      have hm' : (allO orderO (os.drop (i' + 1))).map (ps ++ [p] ++ ·) = allO orderO os := by
        rw [← hm]
        cases allO orderO (os.drop (i' + 1)) <;> simp
      cases hin with
      | nil h hl0 =>
        subst hl0
        have hB := h.get1
        have hBn : (S'.next = rb) = False := h.new_ne (List.mem_cons_self ..)
        have hBn1 : (S'.next + 1 = rb) = False := eq_false (by have := h.lt (List.mem_cons_self ..); omega)
        simp only [t3b, t3s, t3z, size_one, Option.map_some, Nat.mul_one, Nat.zero_add, Nat.zero_le, List.drop_zero, List.map_cons, List.map_nil, g0, g130, g131, g132, q5, hB, hBn, hBn1, go_sem, maxLenA, ne_up1, ne_up2, ne_up3, ne_up4, ne_up5, ne_up6, Option.some.injEq, Nat.reduceAdd, Nat.reduceMul, Nat.reduceEqDiff, Nat.reduceLT, Nat.reduceLeDiff]
        refine ⟨os.length - (i' + 1), by omega, i' + 1, [p], .sl (S'.next + 1) 0 1 1 false, rfl, by omega, by rw [← hps]; rfl, ?_, hm', rfl⟩
        exact RowIn.first (X := (fun v => rdO ls j13 (hdA nm d ch v p4 p0 p1 p2 lin (.c (intsV pans))))) (g := intG) h p _
      | @row b _ h hpos =>
        have hb := h.get1
        have hB := h.drop.get1
        have hbB : (b = rb) = False := eq_false (h.apart (List.mem_cons_self ..))
        have hBb : (rb = b) = False := eq_false (fun e => h.apart (List.mem_cons_self ..) e.symm)
        have hbn : (S'.next = b) = False := h.new_ne (List.mem_cons_self ..)
        have hbn1 : (S'.next + 1 = b) = False := eq_false (by have := h.lt (List.mem_cons_self ..); omega)
        have hBn : (S'.next = rb) = False := h.drop.new_ne (List.mem_cons_self ..)
        have hBn1 : (S'.next + 1 = rb) = False := eq_false (by have := h.drop.lt (List.mem_cons_self ..); omega)
        have hrc : (rowC intG ps).length = ps.length := by rw [rowC_length intG (s := 1) (fun _ => rfl), Nat.mul_one]
        have zt : (rowC intG ps).take ps.length = rowC intG ps := List.take_of_length_le (by omega)
        have z1 : (ps.length + 1) * 8 ≤ 140737488355328 := by omega
        have z2 : ¬ (ps.length + 1 ≤ ps.length) := by omega
        simp only [t3b, t3s, t3z, size_one, Option.map_some, Nat.mul_one, Nat.zero_add, Nat.zero_le, List.drop_zero, List.map_cons, List.map_nil, g0, g130, g131, g132, q5, hb, hB, hbB, hbn, hBn, hBn1, hrc, zt, z1, z2, Nat.le_refl, go_sem, maxLenA, ne_up1, ne_up2, ne_up3, ne_up4, ne_up5, ne_up6, Option.some.injEq, Nat.reduceAdd, Nat.reduceSub, Nat.reduceEqDiff, Nat.reduceLT, Nat.reduceLeDiff]
        refine ⟨os.length - (i' + 1), by omega, i' + 1, ps ++ [p], .sl (S'.next + 1) 0 (ps.length + 1) 1 false, rfl, by omega, by rw [List.length_append, hps]; rfl, ?_, hm', rfl⟩
        exact RowIn.more (X := (fun v => rdO ls j13 (hdA nm d ch v p4 p0 p1 p2 lin (.c (intsV pans))))) (g := intG) h p _
    · have q1 : ¬ ((i' : Int) < (os.length : Int)) := by omega
      rw [List.drop_eq_nil_of_le hge] at hm
      simp only [allO, Option.map_some, List.append_nil] at hm
      rw [← hm] at hRes
      simp only [pureR] at hRes
      obtain ⟨T14, href, hc⟩ := hin.closeUp (P := Tryz.prog) (C := (fun v => rdC (linV ls) j13 (hdA nm d ch v p4 p0 p1 p2 lin (.c (intsV pans))))) (ro := 0) (i := 5) (U2 := 74) (e := intV) (fun T b hT => frz_ints hT) (fun _ => rfl) (fun _ => rfl) (fun _ _ => rfl)
      refine w_refine href (wcode_sound ?_)
      simp only [g131, g132, q1, go_sem, Nat.reduceLT]
      rw [← hRes]
      exact ends_now ⟨rfl, ⟨_, _, _, _, _, _, .nil rfl, .nil rfl, .nil rfl, hc⟩, hj13a, hj13b⟩
  · exact ⟨0, [], _, rfl, Nat.zero_le _, rfl, hstart, by rw [List.drop_zero]; cases allO orderO os <;> simp, by simp only [go_sem, ne_up2, ne_up3, ne_up4, ne_up5, ne_up6, Nat.reduceEqDiff], by simp only [go_sem, ne_up1, ne_up2], by simp only [go_sem, ne_up1], by simp only [go_sem, Int.cast_ofNat_Int]⟩
end
end Go.Proofs.YtgjnimemofmncaaGreatDoor

namespace Go.Proofs.YtgjnimemofmncaaGreatDoor
open Go.Abs Go.Tx
set_option maxHeartbeats 4000000
set_option maxRecDepth 20000
theorem takeWhile_index (c : UInt8) : ∀ l : Bs, l.takeWhile (· != c) = (if 0 ≤ Lib.indexByte l c then l.take (Lib.indexByte l c).toNat else l)
  | [] => rfl
  | x :: r => by
    have ih := takeWhile_index c r
    have hg := Lib.indexByte_ge r c
    simp only [Lib.indexByte]
    by_cases hx : x = c
    · subst hx; simp
    · have h1 : (x != c) = true := by simpa using hx
      have h2 : (x == c) = false := by simpa using hx
      rw [List.takeWhile_cons, h1, if_pos rfl, ih]
      simp only [h2, Bool.false_eq_true, if_false]
      by_cases h3 : 0 ≤ Lib.indexByte r c
      · have h4 : (Lib.indexByte r c == -1) = false := by rw [beq_eq_false_iff_ne]; omega
        simp only [h4, Bool.false_eq_true, if_false]
        rw [if_pos h3, if_pos (by omega), show (Lib.indexByte r c + 1).toNat = (Lib.indexByte r c).toNat + 1 by omega, List.take_succ_cons]
      · have h4 : Lib.indexByte r c = -1 := by omega
        rw [if_neg h3, h4]
        simp
theorem cut_word (l : Bs) : (Lib.cut l [32]).1 = cutW l := by
  unfold cutW Lib.cut
  rw [takeWhile_index, Lib.index_one]
  split <;> rfl
theorem patR_lt {ch : Int} {n : Nat} {line : Bs} {ls : List Bs} {i j : Nat} {p : PatV} (h : patR ch n line ls i = .ok p j) : n < 32 := by
  rw [patR, bnd_must] at h
  split at h
  · rename_i hh; exact of_decide_eq_true hh
  · cases h
theorem smpR_lt {n : Nat} {line : Bs} {ls : List Bs} {i j : Nat} {p : SmpV} (h : smpR n line ls i = .ok p j) : n < 31 := by
  rw [smpR, bnd_must] at h
  split at h
  · rename_i hh; exact of_decide_eq_true hh
  · cases h
theorem insR_lt {n : Nat} {line : Bs} {ls : List Bs} {i j : Nat} {p : InsV} (h : insR n line ls i = .ok p j) : n < 31 := by
  rw [insR, bnd_must] at h
  split at h
  · rename_i hh; exact of_decide_eq_true hh
  · cases h
theorem adv_step {w : Bs} {q : Nat} {x : Bs} (hx : kinds[q]? = some x) (h : x ≠ w) : adv w q = adv w (q + 1) := by
  have hq : q < kinds.length := (List.getElem?_eq_some_iff.1 hx).1
  have hx' : kinds[q] = x := (List.getElem?_eq_some_iff.1 hx).2
  unfold adv
  rw [List.drop_eq_getElem_cons hq, List.takeWhile_cons, hx']
  have : (x != w) = true := by simpa using h
  rw [this, if_pos rfl, List.length_cons]
  omega
theorem adv_here {w : Bs} {q : Nat} (hx : kinds[q]? = some w) : adv w q = q := by
  have hq : q < kinds.length := (List.getElem?_eq_some_iff.1 hx).1
  have hx' : kinds[q] = w := (List.getElem?_eq_some_iff.1 hx).2
  unfold adv
  rw [List.drop_eq_getElem_cons hq, List.takeWhile_cons, hx']
  simp
section
variable {S0 T : St} {rb i j : Nat} {ls : List Bs} {s : SongV} {F F' : List (Nat × Ob)} {m : Int}
theorem RDx.new (h : RDx S0 rb ls i s F T) (o : Ob) : RDx S0 rb ls i s ((T.next, o) :: F) (T.new o) := by
  obtain ⟨pv, sv, iv, Lp, Ls, Li, hp, hs, hv, hc⟩ := h
  refine ⟨pv, sv, iv, Lp, Ls, Li, hp, hs, hv, (hc.new o).perm ?_⟩
  have e : ((rb, rdO ls i (songCA s pv sv iv)) :: (Lp ++ (Ls ++ (Li ++ (T.next, o) :: F)))) = ((rb, rdO ls i (songCA s pv sv iv)) :: (Lp ++ (Ls ++ Li))) ++ (T.next, o) :: F := by simp
  have e2 : ((rb, rdO ls i (songCA s pv sv iv)) :: (Lp ++ (Ls ++ (Li ++ F)))) = ((rb, rdO ls i (songCA s pv sv iv)) :: (Lp ++ (Ls ++ Li))) ++ F := by simp
  rw [e, e2]
  exact List.perm_middle.symm
theorem RDx.sub (h : RDx S0 rb ls i s F T) (hs : F'.Sublist F) : RDx S0 rb ls i s F' T := by
  obtain ⟨pv, sv, iv, Lp, Ls, Li, hp, hss, hv, hc⟩ := h
  exact ⟨pv, sv, iv, Lp, Ls, Li, hp, hss, hv, hc.sub (List.Sublist.cons_cons _ ((List.Sublist.refl _).append ((List.Sublist.refl _).append ((List.Sublist.refl _).append hs))))⟩
theorem RDx.get (h : RDx S0 rb ls i s F T) {b : Nat} {o : Ob} (hm : (b, o) ∈ F) : T.get b = some o := by
  obtain ⟨pv, sv, iv, Lp, Ls, Li, hp, hs, hv, hc⟩ := h
  exact hc.get (by simp [hm])
theorem RDx.rd (h : RDx S0 rb ls i s F T) : ∃ song, T.get rb = some (rdO ls i song) := by
  obtain ⟨pv, sv, iv, Lp, Ls, Li, hp, hs, hv, hc⟩ := h
  exact ⟨_, hc.get1⟩
theorem RDx.fwd (h : RDx S0 rb ls i s F T) (hS0 : Shut S0) : Fwd S0 T := by
  obtain ⟨pv, sv, iv, Lp, Ls, Li, hp, hs, hv, hc⟩ := h
  exact hc.fwd hS0
abbrev kdC (rb : Nat) : List AV := [.c (.str wPattern), .clo 51 [.ref rb 0] [], .c (.str wSample), .clo 52 [.ref rb 0] [], .c (.str wInst), .clo 53 [.ref rb 0] []]
theorem wc22 (hS0 : Shut S0) (hk : S0.known = KN m) (hls : ls.length ≤ 1000000000) (hll : ∀ l ∈ ls, l.length ≤ 1000000) (h : RDx S0 rb ls i s F T) (hs0 : s.patterns = [] ∧ s.samples = [] ∧ s.insts = []) (hi1 : 1 ≤ i) (hi : i ≤ ls.length) :
    WC Tryz.prog 22 [.ref rb 0] (RdX S0 rb ls F (fun s => s) (Tx.bodyR 96 0 s ls i)) T := by
  generalize hRes : Tx.bodyR 96 0 s ls i = res
  have bad : ∀ {L : List (Nat × Ob)} {T : St} {k : Int}, FR S0 L T → res = .bad k → RdX S0 rb ls F (fun s => s) res (.panic (stopV 2 k)) T := fun h e => by
    subst e; exact ⟨rfl, h.fwd hS0⟩
  have bad' : ∀ {T : St} {k : Int}, Fwd S0 T → res = .bad k → RdX S0 rb ls F (fun s => s) res (.panic (stopV 2 k)) T := fun h e => by
    subst e; exact ⟨rfl, h⟩
  have short : ∀ {L : List (Nat × Ob)} {T : St}, FR S0 L T → res = .short → RdX S0 rb ls F (fun s => s) res (.panic (stopV 12 ls.length)) T := fun h e => by
    subst e; exact ⟨rfl, h.fwd hS0⟩
  have short' : ∀ {T : St}, Fwd S0 T → res = .short → RdX S0 rb ls F (fun s => s) res (.panic (stopV 12 ls.length)) T := fun h e => by
    subst e; exact ⟨rfl, h⟩
  refine wc_fn (fn := Tryz.f22) (N := 56) (rs := []) (by rfl) (by kernel_rfl) (by rfl) (by rfl) (by rfl) (by rfl) fun hS => ?_
  simp only [go_sem, ne_up1, ne_up2, ne_up3, ne_up4, ne_up5, ne_up6, mkClo, Nat.reduceAdd, Nat.reduceMul, Nat.reduceEqDiff, Nat.reduceLT, Nat.reduceLeDiff]
  have hst := h.new (.blk (kdC rb) 0 113)
  generalize hkb : T.next = kb at *
  refine wloop_meas (fun m' e S' => ∃ (k i' : Nat) (s' : SongV), m' = m' ∧ k ≤ 2 ∧ RDx S0 rb ls i' s' ((kb, .blk (kdC rb) 0 113) :: F) S' ∧ Tx.bodyR m' k s' ls i' = Tx.bodyR 96 0 s ls i ∧
    (s'.patterns.length ≤ 32 ∧ s'.samples.length ≤ 31 ∧ s'.insts.length ≤ 31) ∧ s'.patterns.length + s'.samples.length + s'.insts.length + m' = 96 ∧ 1 ≤ i' ∧ i' ≤ ls.length ∧
    e.get 0 = .ref rb 0 ∧ e.get 2 = .sl kb 0 3 2 true ∧ e.get 3 = i64 k) ?_ 96 _ _ ?_
  · rintro m' e S' ⟨k, i', s', -, hk2, hrd, hrow, hb, hsum, hi1', hi', g0, g2, g3⟩
    obtain ⟨g, rfl⟩ : ∃ g, m' = g + 1 := ⟨m' - 1, by omega⟩
    rw [Tx.bodyR, bnd_line] at hrow
    obtain ⟨pv, sv, iv, Lp, Ls, Li, hp, hs, hv, hc⟩ := hrd
    simp only [g0, go_sem, Nat.reduceLT]
    refine wc_rd (wc44r hc.get1 hi' hls) (fun l j hl hj1 hj2 => ?_) (fun k' jx hl => ?_) (fun jx hl => ?_)
    case refine_2 =>
      rw [hl] at hrow
      simp only [go_sem]
      exact bad (hc.put _) (by rw [← hRes, ← hrow])
    case refine_3 =>
      rw [hl] at hrow
      simp only [go_sem]
      exact short (hc.put _) (by rw [← hRes, ← hrow])
    rw [hl] at hrow
    simp only at hrow
    have hrd2 : RDx S0 rb ls j s' ((kb, .blk (kdC rb) 0 113) :: F) (S'.put rb (rdO ls j (songCA s' pv sv iv))) := ⟨pv, sv, iv, Lp, Ls, Li, hp, hs, hv, hc.put _⟩
    have hkn : (S'.put rb (rdO ls j (songCA s' pv sv iv))).known = KN m := (hc.put (rdO ls j (songCA s' pv sv iv))).known.trans hk
    generalize S'.put rb (rdO ls j (songCA s' pv sv iv)) = T2 at hrd2 hkn ⊢
    clear hp hs hv hc
    have hl' := hll l (lineR_mem hl)
    have hgk := hrd2.get (List.mem_cons_self ..)
    obtain ⟨song, hrd⟩ := hrd2.rd
    by_cases he : l = wEnd
    · have e1 : (l == [101, 110, 100]) = true := by rw [beq_iff_eq]; exact he
      rw [if_pos he] at hrow
      simp only [e1, go_sem, Nat.reduceLT]
      rw [← hRes, ← hrow]
      exact ends_now ⟨rfl, hrd2.sub (List.sublist_cons_self ..), hj1, hj2⟩
    · have e1 : (l == [101, 110, 100]) = false := by rw [beq_eq_false_iff_ne]; exact he
      rw [if_neg he] at hrow
      simp only [e1, go_sem, Nat.reduceEqDiff, Nat.reduceLT]
      refine wc_is (wc54 hkn l [32] (by omega)) ?_
      rw [cut_word]
      generalize hcw : cutW l = w at *
      simp only [go_sem, ne_up1, ne_up2, ne_up3, ne_up4, Nat.reduceEqDiff, Nat.reduceLT]
      refine wloop_meas (fun m' e S' => S' = T2 ∧ ∃ q : Nat, m' = 3 - q ∧ q ≤ 3 ∧ adv w q = adv w k ∧ e.get 0 = .ref rb 0 ∧ e.get 2 = .sl kb 0 3 2 true ∧ e.get 3 = i64 q ∧ e.get 4 = str l ∧ e.get 5 = str w) ?_ (3 - k) _ _ ?_
      · rintro m' e S' ⟨rfl, q, rfl, hq, hadv, g0, g2, g3, g4, g5⟩
        by_cases hq0 : q = 0
        · subst hq0
          have hz : ((0 : Nat) : Int) = 0 := rfl
          by_cases hw : wPattern = w
          · have e2 : (wPattern != w) = false := by rw [bne_eq_false_iff_eq]; exact hw
            have hsp : adv w k = 0 := by rw [← hadv]; exact adv_here (by rw [← hw]; rfl)
            rw [hsp] at hrow
            simp only [Nat.reduceEqDiff, if_true, if_false] at hrow
            rw [bnd] at hrow
            simp only [g0, g2, g3, g5, hgk, e2, hz, go_sem, ne_up1, ne_up2, ne_up3, ne_up4, ne_up5, ne_up6, Int.cast_ofNat_Int, Nat.reduceAdd, Nat.reduceSub, Nat.reduceMul, Nat.reduceEqDiff, Nat.reduceLT, Int.reduceLT, Int.reduceToNat]
            refine wc_must hrd (by omega) (by omega) (fun _ => ?_) (fun h => by cases h)
            simp only [g2, g3, g4, hgk, hz, go_sem, ne_up1, Nat.reduceAdd, Nat.reduceMul, Nat.reduceEqDiff, Nat.reduceLT, Int.reduceLT, Int.reduceToNat]
            refine (wc51 hS0 hk hls hll hrd2 hj1 hj2 l hl').mono ?_
            rintro x T3 hx
            cases hr : patR s'.channels s'.patterns.length l ls j with
            | ok p j' =>
              rw [hr] at hx hrow
              obtain ⟨rfl, hrd3, hj1', hj2'⟩ := hx
              simp only at hrow
              have hlt := patR_lt hr
              simp only [g0, g2, g3, go_sem, Int.cast_ofNat_Int, Nat.reduceEqDiff]
              exact ⟨g, by omega, 0, j', { s' with patterns := s'.patterns ++ [p] }, by omega, hrd3, hrow, by simp only [List.length_append, List.length_singleton]; omega, by simp only [List.length_append, List.length_singleton]; omega, hj1', hj2', rfl⟩
            | bad k' =>
              rw [hr] at hx hrow
              obtain ⟨rfl, hx2⟩ := hx
              simp only [go_sem]
              exact bad' hx2 (by rw [← hRes, ← hrow])
            | short =>
              rw [hr] at hx hrow
              obtain ⟨rfl, hx2⟩ := hx
              simp only [go_sem]
              exact short' hx2 (by rw [← hRes, ← hrow])
          · have e2 : (wPattern != w) = true := by rw [bne_iff_ne]; exact hw
            simp only [g0, g2, g3, g4, g5, hgk, e2, hz, go_sem, ne_up1, ne_dn1, ne_up2, ne_dn2, ne_up3, ne_up4, ne_up5, ne_up6, wrap_i64, Int.cast_ofNat_Int, Nat.reduceAdd, Nat.reduceSub, Nat.reduceMul, Nat.reduceEqDiff, Nat.reduceLT, Int.reduceLT, Int.reduceLE, Int.reduceToNat, Int.reduceNeg, Int.reduceAdd]
            exact ⟨3 - (0 + 1), by omega, 0 + 1, rfl, by omega, by rw [← hadv]; exact (adv_step (by rfl) hw).symm, rfl⟩
        by_cases hq1 : q = 1
        · subst hq1
          have hz : ((1 : Nat) : Int) = 1 := rfl
          by_cases hw : wSample = w
          · have e2 : (wSample != w) = false := by rw [bne_eq_false_iff_eq]; exact hw
            have hsp : adv w k = 1 := by rw [← hadv]; exact adv_here (by rw [← hw]; rfl)
            rw [hsp] at hrow
            simp only [Nat.reduceEqDiff, if_true, if_false] at hrow
            rw [bnd] at hrow
            simp only [g0, g2, g3, g5, hgk, e2, hz, go_sem, ne_up1, ne_up2, ne_up3, ne_up4, ne_up5, ne_up6, Int.cast_ofNat_Int, Nat.reduceAdd, Nat.reduceSub, Nat.reduceMul, Nat.reduceEqDiff, Nat.reduceLT, Int.reduceLT, Int.reduceToNat]
            refine wc_must hrd (by omega) (by omega) (fun _ => ?_) (fun h => by cases h)
            simp only [g2, g3, g4, hgk, hz, go_sem, ne_up1, Nat.reduceAdd, Nat.reduceMul, Nat.reduceEqDiff, Nat.reduceLT, Int.reduceLT, Int.reduceToNat]
            refine (wc52 hS0 hk hls hll hrd2 hj1 hj2 l hl').mono ?_
            rintro x T3 hx
            cases hr : smpR s'.samples.length l ls j with
            | ok p j' =>
              rw [hr] at hx hrow
              obtain ⟨rfl, hrd3, hj1', hj2'⟩ := hx
              simp only at hrow
              have hlt := smpR_lt hr
              simp only [g0, g2, g3, go_sem, Int.cast_ofNat_Int, Nat.reduceEqDiff]
              exact ⟨g, by omega, 1, j', { s' with samples := s'.samples ++ [p] }, by omega, hrd3, hrow, by simp only [List.length_append, List.length_singleton]; omega, by simp only [List.length_append, List.length_singleton]; omega, hj1', hj2', rfl⟩
            | bad k' =>
              rw [hr] at hx hrow
              obtain ⟨rfl, hx2⟩ := hx
              simp only [go_sem]
              exact bad' hx2 (by rw [← hRes, ← hrow])
            | short =>
              rw [hr] at hx hrow
              obtain ⟨rfl, hx2⟩ := hx
              simp only [go_sem]
              exact short' hx2 (by rw [← hRes, ← hrow])
          · have e2 : (wSample != w) = true := by rw [bne_iff_ne]; exact hw
            simp only [g0, g2, g3, g4, g5, hgk, e2, hz, go_sem, ne_up1, ne_dn1, ne_up2, ne_dn2, ne_up3, ne_up4, ne_up5, ne_up6, wrap_i64, Int.cast_ofNat_Int, Nat.reduceAdd, Nat.reduceSub, Nat.reduceMul, Nat.reduceEqDiff, Nat.reduceLT, Int.reduceLT, Int.reduceLE, Int.reduceToNat, Int.reduceNeg, Int.reduceAdd]
            exact ⟨3 - (1 + 1), by omega, 1 + 1, rfl, by omega, by rw [← hadv]; exact (adv_step (by rfl) hw).symm, rfl⟩
        by_cases hq2 : q = 2
        · subst hq2
          have hz : ((2 : Nat) : Int) = 2 := rfl
          by_cases hw : wInst = w
          · have e2 : (wInst != w) = false := by rw [bne_eq_false_iff_eq]; exact hw
            have hsp : adv w k = 2 := by rw [← hadv]; exact adv_here (by rw [← hw]; rfl)
            rw [hsp] at hrow
            simp only [Nat.reduceEqDiff, if_true, if_false] at hrow
            rw [bnd] at hrow
            simp only [g0, g2, g3, g5, hgk, e2, hz, go_sem, ne_up1, ne_up2, ne_up3, ne_up4, ne_up5, ne_up6, Int.cast_ofNat_Int, Nat.reduceAdd, Nat.reduceSub, Nat.reduceMul, Nat.reduceEqDiff, Nat.reduceLT, Int.reduceLT, Int.reduceToNat]
            refine wc_must hrd (by omega) (by omega) (fun _ => ?_) (fun h => by cases h)
            simp only [g2, g3, g4, hgk, hz, go_sem, ne_up1, Nat.reduceAdd, Nat.reduceMul, Nat.reduceEqDiff, Nat.reduceLT, Int.reduceLT, Int.reduceToNat]
            refine (wc53 hS0 hk hls hll hrd2 hj1 hj2 l hl').mono ?_
            rintro x T3 hx
            cases hr : insR s'.insts.length l ls j with
            | ok p j' =>
              rw [hr] at hx hrow
              obtain ⟨rfl, hrd3, hj1', hj2'⟩ := hx
              simp only at hrow
              have hlt := insR_lt hr
              simp only [g0, g2, g3, go_sem, Int.cast_ofNat_Int, Nat.reduceEqDiff]
              exact ⟨g, by omega, 2, j', { s' with insts := s'.insts ++ [p] }, by omega, hrd3, hrow, by simp only [List.length_append, List.length_singleton]; omega, by simp only [List.length_append, List.length_singleton]; omega, hj1', hj2', rfl⟩
            | bad k' =>
              rw [hr] at hx hrow
              obtain ⟨rfl, hx2⟩ := hx
              simp only [go_sem]
              exact bad' hx2 (by rw [← hRes, ← hrow])
            | short =>
              rw [hr] at hx hrow
              obtain ⟨rfl, hx2⟩ := hx
              simp only [go_sem]
              exact short' hx2 (by rw [← hRes, ← hrow])
          · have e2 : (wInst != w) = true := by rw [bne_iff_ne]; exact hw
            simp only [g0, g2, g3, g4, g5, hgk, e2, hz, go_sem, ne_up1, ne_dn1, ne_up2, ne_dn2, ne_up3, ne_up4, ne_up5, ne_up6, wrap_i64, Int.cast_ofNat_Int, Nat.reduceAdd, Nat.reduceSub, Nat.reduceMul, Nat.reduceEqDiff, Nat.reduceLT, Int.reduceLT, Int.reduceLE, Int.reduceToNat, Int.reduceNeg, Int.reduceAdd]
            exact ⟨3 - (2 + 1), by omega, 2 + 1, rfl, by omega, by rw [← hadv]; exact (adv_step (by rfl) hw).symm, rfl⟩
        have hq3 : q = 3 := by omega
        subst hq3
        have hz : ((3 : Nat) : Int) = 3 := rfl
        have hsp : adv w k = 3 := by rw [← hadv]; rfl
        rw [hsp] at hrow
        simp only [Nat.reduceEqDiff, if_false] at hrow
        simp only [g0, g2, g3, hz, go_sem, ne_up1, ne_up2, ne_up3, ne_up4, ne_up5, ne_up6, Nat.reduceSub, Nat.reduceEqDiff, Nat.reduceLT, Int.reduceLT]
        refine wc_must hrd (by omega) (by omega) (fun h => by cases h) (fun _ => ?_)
        simp only [go_sem]
        exact bad' (hrd2.fwd hS0) (by rw [← hRes, ← hrow]; rfl)
      · exact ⟨rfl, k, rfl, by omega, rfl, by simp only [g0, go_sem, ne_up4, ne_up5, ne_up6, Nat.reduceEqDiff], by simp only [g2, go_sem, ne_up2, ne_up3, ne_up4, ne_up5, Nat.reduceEqDiff], by simp only [g3, go_sem, ne_up1, ne_up2, ne_up3, ne_up4, Nat.reduceEqDiff], by simp only [go_sem, ne_up1, ne_up2, ne_up3, Nat.reduceEqDiff], by simp only [go_sem, ne_up1, ne_up2]⟩
  · exact ⟨0, i, s, rfl, by omega, hst, rfl, by rw [hs0.1, hs0.2.1, hs0.2.2]; simp, by rw [hs0.1, hs0.2.1, hs0.2.2]; rfl, hi1, hi, by simp only [go_sem, ne_up2, ne_up3, Nat.reduceEqDiff], by simp only [go_sem, ne_up1], by simp only [go_sem, Int.cast_ofNat_Int]⟩
end
end Go.Proofs.YtgjnimemofmncaaGreatDoor

namespace Go.Proofs.YtgjnimemofmncaaGreatDoor
open Go.Abs Go.Tx
set_option maxHeartbeats 4000000
set_option maxRecDepth 20000
theorem empty_array {α : Type} : (#[] : Array α).isEmpty = true := rfl
variable {T : St} {b0 b1 : Nat}
theorem wd20_ret {R : CX → DM → St → Prop} (h : R (.ret (.tup [])) .ret T) : WDc Tryz.prog 20 [.ref b0 0, .ref b1 0] R .ret T := by
  refine wd_fn (fn := Tryz.f20) (N := 19) (by rfl) (by rfl) (by rfl) (by rfl) (by rfl) fun hS => ?_
  refine wf_seq (wf_region ?_)
  refine ⟨by simp [dstOk], by rfl, .inr ⟨⟨_, by rfl⟩, ?_⟩⟩
  refine ⟨by simp [dstOk], by rfl, .inl ⟨_, _, by rfl, ?_⟩⟩
  refine wf_of_w (wcode_sound ?_)
  simp only [recA, empty_array, go_sem, Nat.reduceAdd, Nat.reduceLT]
  exact h
abbrev zeroA : List AV := [.c (.str []), i64 0, i64 0, .c .nils, i64 0, i64 0, i64 0, i64 0, .c (.bool false), .c .nils, .c .nils, .c .nils, .c .nils]
theorem wd20_pan {R : CX → DM → St → Prop} {cs : List AV} {c1 c2 : AV} {code n : Int} (h0 : T.get b0 = some (.blk cs 0 27)) (hl : cs.length = 13) (h1 : T.get b1 = some (.blk [c1, c2] 0 39)) (hne : b0 ≠ b1) (h0l : b0 < T.next) (h1l : b1 < T.next)
    (h : R (.ret (.tup [])) (.back (stopV code n)) (((T.new (.blk [i64 code, i64 n] 0 68)).put b0 (.blk zeroA 0 27)).put b1 (.blk [i64 code, i64 n] 0 39))) : WDc Tryz.prog 20 [.ref b0 0, .ref b1 0] R (.pan (stopV code n)) T := by
  refine wd_fn (fn := Tryz.f20) (N := 19) (by rfl) (by rfl) (by rfl) (by rfl) (by rfl) fun hS => ?_
  refine wf_seq (wf_region ?_)
  refine ⟨by simp [dstOk], by rfl, .inr ⟨⟨_, by rfl⟩, ?_⟩⟩
  refine ⟨by simp [dstOk], by rfl, .inl ⟨_, _, by rfl, ?_⟩⟩
  refine wf_of_w (wcode_sound ?_)
  have e1 : (b1 = b0) = False := eq_false (fun e => hne e.symm)
  have e2 : (b0 = b1) = False := eq_false hne
  have e3 : (T.next = b0) = False := eq_false (by omega)
  have e4 : (T.next = b1) = False := eq_false (by omega)
  have e5 : (b0 = T.next) = False := eq_false (by omega)
  have e6 : (b1 = T.next) = False := eq_false (by omega)
  have z13 : 13 ≤ cs.length := by omega
  have hdr : cs.drop 13 = [] := List.drop_eq_nil_of_le (by omega)
  simp only [recA, go_sem, put_new, ne_up1, ne_up3, ne_up4, ne_up5, aAssert, Nat.reduceAdd, Nat.reduceEqDiff, Nat.reduceLT, Nat.reduceLeDiff]
  refine wdraw_plan ch20x5 pp20x5 (by kernel_rfl) (by kernel_rfl) (by kernel_rfl) ?_
  simp only [h0, h1, e2, e3, e4, e5, hl, hdr, go_sem, ne_up1, ne_dn1, ne_up2, ne_up3, ne_up4, ne_up5, ne_up6, Option.some.injEq, Nat.reduceAdd, Nat.reduceEqDiff, Nat.reduceLT, Nat.reduceLeDiff]
  exact h
end Go.Proofs.YtgjnimemofmncaaGreatDoor
