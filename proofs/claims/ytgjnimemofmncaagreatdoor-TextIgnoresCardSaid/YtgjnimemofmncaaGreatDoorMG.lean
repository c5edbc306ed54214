/-
  'orchestrionlaw08.TextIgnores', whatever the song, the places and the comment: it answers true, and what was handed in reads as it did; the program's own tables start as the program's text lays them (the card ties them). No other condition.
-/
import Derived.Test.YtgjnimemofmncaaGreatDoorMF
import Derived.Test.YtgjnimemofmncaaGreatDoorCards
import Derived.Test.YtgjnimemofmncaaGreatDoorTie
import Derived.ProofKit
import Derived.OpenShut
import Derived.LaidMore
import Derived.Lay
import Derived.SevenTiedAt
import Derived.Stop.Joined
import Derived.Shelf.Vars
import Derived.Lib.LaidTab
set_option linter.unusedVariables false
set_option linter.unusedSimpArgs false
namespace Go.Proofs.YtgjnimemofmncaaGreatDoor
open Go.Abs Go.Tx
set_option maxHeartbeats 4000000
set_option maxRecDepth 20000
abbrev mEnc (ms : List (Int × Int)) : List (FV × AV) := ms.map fun p => (.int .i64 p.1, i64 p.2)
theorem findA_m (k : Int) : ∀ ms : List (Int × Int), findA (.int .i64 k) (mEnc ms) = some ((mget k ms).map i64)
  | [] => rfl
  | (a, v) :: r => by
    have ih := findA_m k r
    rw [mEnc, List.map_cons, findA, mget]
    by_cases h : k = a
    · subst h
      simp [keyEq]
    · have hb : (k == a) = false := by simpa using h
      simp only [keyEq, if_true, hb]
      rw [if_neg h]
      exact ih
theorem updA_m (k v : Int) : ∀ {ms : List (Int × Int)} {u : Int}, mget k ms = some u → updA (.int .i64 k) (i64 v) (mEnc ms) = some (mEnc (mset k v ms))
  | [], u, h => by simp [mget] at h
  | (a, w) :: r, u, h => by
    rw [mEnc, List.map_cons, updA, mset]
    by_cases hk : k = a
    · subst hk
      simp [keyEq]
    · have hb : (k == a) = false := by simpa using hk
      rw [mget, if_neg hk] at h
      have ih := updA_m k v h
      simp only [keyEq, if_true, hb]
      rw [if_neg hk]
      show (match updA (.int .i64 k) (i64 v) (mEnc r) with | some l => _ | none => _) = _
      rw [ih]
      rfl
theorem mem_flat_le : ∀ {L : List Bs} {x : Bs}, x ∈ L → x.length ≤ (Tx.flat L).length
  | y :: r, x, h => by
    rw [Tx.flat_cons, List.length_append, List.length_append]
    rcases List.mem_cons.1 h with rfl | h
    · omega
    · have := mem_flat_le h
      omega
theorem byteCells_append (a b : Bs) : byteCells (a ++ b) = byteCells a ++ byteCells b := by simp [byteCells]
theorem FR.byte {S T : St} {L : List (Nat × Ob)} {b : Nat} {bs : Bs} (h : FR S ((b, .blk (byteCells bs) 0 5) :: L) T) (c : UInt8) (o : Ob) :
    FR S ((T.next + 1, .blk (byteCells (bs ++ [c])) 0 5) :: L) (((T.new o).put b .dead).new (.blk (byteCells bs ++ [.c (.int .u8 c.toNat)]) 0 5)) := by
  have h2 := (((h.tmp o).put .dead).drop).new (.blk (byteCells bs ++ [.c (.int .u8 c.toNat)]) 0 5)
  have e1 : byteCells bs ++ [.c (.int .u8 c.toNat)] = byteCells (bs ++ [c]) := by simp [byteCells]
  rw [e1] at h2 ⊢
  exact h2
theorem FR.text {S T : St} {L : List (Nat × Ob)} {b : Nat} {bs : Bs} (h : FR S ((b, .blk (byteCells bs) 0 5) :: L) T) (l : Bs) :
    FR S ((T.next, .blk (byteCells (bs ++ l)) 0 5) :: L) ((T.put b .dead).new (.blk (byteCells bs ++ byteCells l) 0 5)) := by
  have h2 := ((h.put .dead).drop).new (.blk (byteCells bs ++ byteCells l) 0 5)
  have e1 : byteCells bs ++ byteCells l = byteCells (bs ++ l) := by simp [byteCells]
  rw [e1] at h2 ⊢
  exact h2
theorem parse_song {t : Bs} {s s' : SongV} {i : Nat} (h : parseT validS t = (s, 0, 0)) (hl : t.length ≤ 200000) (hr : songR (linesT t) 0 = .ok s' i) : s' = s := by
  unfold parseT at h
  rw [if_neg (by omega), hr] at h
  simp only at h
  cases hm : moreL ((linesT t).drop i) i with
  | mk a j =>
    rw [hm] at h
    cases a with
    | some l => simp at h
    | none =>
      simp only at h
      split at h
      · simp at h; exact h
      · simp at h
theorem parse_none {t : Bs} {k : Int} (h : parseT validS t = (.zero, 12, k)) (hl : t.length ≤ 200000) {s' : SongV} {i : Nat} : songR (linesT t) 0 ≠ .ok s' i := by
  intro hr
  unfold parseT at h
  rw [if_neg (by omega), hr] at h
  simp only at h
  cases hm : moreL ((linesT t).drop i) i with
  | mk a j =>
    rw [hm] at h
    cases a with
    | some l => simp at h
    | none =>
      simp only at h
      split at h <;> simp at h
theorem tmod_in (v : Int) {n : Nat} (hn : 0 < n) (hb : n ≤ 1000000000) : ∃ k : Nat, k < n ∧ Int.tmod (IntKind.i64.wrap (Int.tmod v (n : Int) + (n : Int))) (n : Int) = (k : Int) := by
  have h1 := Int.tmod_lt_of_pos v (show (0 : Int) < (n : Int) by omega)
  have h2 := Int.lt_tmod_of_pos v (show (0 : Int) < (n : Int) by omega)
  rw [wrap_i64 _ (by omega) (by omega)]
  have h3 := Int.tmod_lt_of_pos (Int.tmod v (n : Int) + (n : Int)) (show (0 : Int) < (n : Int) by omega)
  have h4 := Int.tmod_nonneg (n : Int) (show 0 ≤ Int.tmod v (n : Int) + (n : Int) by omega)
  exact ⟨(Int.tmod (Int.tmod v (n : Int) + (n : Int)) (n : Int)).toNat, by omega, by omega⟩
section
variable {m : Int} {S : St}
theorem wc3 (hk : S.known = KN m) (s : SongV) (hz : Sized s) (hR : Rows s) (at_ : List Int) (hat : at_.length ≤ 140737488355328) (cm : Bs) (hcm : cm.length ≤ 140737488355328) :
    WC Tryz.prog 3 [.c (songV s), .c (intsV at_), str cm] (Is (boolV true) S) S := by
  have hsza : allSize 1 (at_.map intV) = true := allSize_map (s := 1) intV (fun _ => rfl) at_
  refine wc_fn (fn := Tryz.f3) (N := 183) (rs := [.tmp 6]) (by rfl) (by kernel_rfl) (by rfl) (by rfl) (by rfl) (by rfl) fun hS => ?_
  have h1 := (FR.start hS.1).new (.blk (songA s) 0 27)
  have hk1 : (S.new (.blk (songA s) 0 27)).known = KN m := hk
  have awake : ∀ {T : St} {L : List (Nat × Ob)}, FR S L T → WC Tryz.prog 5 [] (Is (boolV true) T) T := fun h => wc5 (h.known.trans hk)
  simp only [go_sem, ne_up3, Nat.reduceAdd, Nat.reduceLT, Nat.reduceLeDiff]
  refine (wc4 s hR _).mono ?_
  rintro x T ⟨rfl, b, rfl⟩
  by_cases hin : b = true ∧ at_.length ≤ 50 ∧ cm.length ≤ 100
  case neg =>
    cases b with
    | false =>
      simp only [Bool.not_false, Bool.not_true, go_sem, ne_up1, ne_up2, ne_up3, Nat.reduceLT]
      refine wc_is (awake h1) ?_
      simp only [go_sem, Nat.reduceLT]
      exact ends_fwd (h1.fwd hS) rfl ⟨rfl, rfl⟩
    | true =>
      by_cases h50 : at_.length ≤ 50
      · have q1 : ((at_.length : Int) > 50) = False := by simp; omega
        have q2 : ((cm.length : Int) > 100) = True := by
          have : ¬ cm.length ≤ 100 := fun h => hin ⟨rfl, h50, h⟩
          simp; omega
        simp only [q1, q2, Bool.not_true, Bool.not_false, List.length_map, go_sem, ne_up1, ne_dn1, ne_up2, ne_dn2, ne_up3, ne_up4, ne_up5, Nat.reduceEqDiff, Nat.reduceLT]
        refine wc_is (awake h1) ?_
        simp only [go_sem, Nat.reduceLT]
        exact ends_fwd (h1.fwd hS) rfl ⟨rfl, rfl⟩
      · have q1 : ((at_.length : Int) > 50) = True := by simp; omega
        simp only [q1, Bool.not_true, Bool.not_false, List.length_map, go_sem, ne_up1, ne_dn1, ne_up2, ne_up3, ne_up5, Nat.reduceEqDiff, Nat.reduceLT]
        refine wc_is (awake h1) ?_
        simp only [go_sem, Nat.reduceLT]
        exact ends_fwd (h1.fwd hS) rfl ⟨rfl, rfl⟩
  obtain ⟨rfl, ha50, hc100⟩ := hin
  have q1 : ((at_.length : Int) > 50) = False := by simp; omega
  have q2 : ((cm.length : Int) > 100) = False := by simp; omega
  simp only [q1, q2, Bool.not_true, Bool.not_false, List.length_map, go_sem, ne_up1, ne_dn1, ne_up2, ne_dn2, ne_up3, ne_up4, ne_up5, Nat.reduceAdd, Nat.reduceEqDiff, Nat.reduceLT, Nat.reduceLeDiff]
  refine wc_is (wc6 s hz hk1) ?_
  by_cases hv : validS s = true
  case neg =>
    have hfm : fmtA s = [str [], i64 1] := by rw [fmtA, if_neg hv]
    rw [hfm]
    have e0 : ((1 : Int) != 0) = true := rfl
    simp only [e0, go_sem, ne_up1, ne_up3, Nat.reduceEqDiff, Nat.reduceLT]
    refine wc_is (awake h1) ?_
    simp only [go_sem, Nat.reduceLT]
    exact ends_fwd (h1.fwd hS) rfl ⟨rfl, rfl⟩
  by_cases hlen : (Tx.flat (fmtL s)).length ≤ 200000
  case neg =>
    have hfm : fmtA s = [str [], i64 3] := by rw [fmtA, if_pos hv, if_neg hlen]
    rw [hfm]
    have e0 : ((3 : Int) != 0) = true := rfl
    simp only [e0, go_sem, ne_up1, ne_up3, Nat.reduceEqDiff, Nat.reduceLT]
    refine wc_is (awake h1) ?_
    simp only [go_sem, Nat.reduceLT]
    exact ends_fwd (h1.fwd hS) rfl ⟨rfl, rfl⟩
  have hfm : fmtA s = [str (Tx.flat (fmtL s)), i64 0] := by rw [fmtA, if_pos hv, if_pos hlen]
  rw [hfm]
  have ho := fmt_ok (valid_good hv)
  have hcl : ∀ x ∈ fmtL s, Tx.Clean x := fun x hx => (ho x hx).2
  have hlines := linesT_flat hcl
  have hsplit := splitNL_flat hcl
  have hign := fun (more : Nat → Nat) (hc : Tx.Clean cm) => ignores hv hc more
  have hbeg := fun (k : Nat) (hk : k < (fmtL s).length) => begins hv hlen hk
  have h8 := fmt_len (s := s)
  have hLn : (fmtL s).length ≤ 200000 := Nat.le_trans (lines_le _) hlen
  generalize hX : Tx.flat (fmtL s) = X at *
  generalize fmtL s = L at *
  have e0 : ((0 : Int) != 0) = false := rfl
  simp only [e0, go_sem, ne_up1, ne_up3, Nat.reduceEqDiff, Nat.reduceLT]
  refine wloop_meas (fun m' e S' => S' = S.new (.blk (songA s) 0 27) ∧ ∃ i : Nat, m' = cm.length - i ∧ i ≤ cm.length ∧ (∀ b ∈ cm.take i, b ≠ 10) ∧ e.get 1 = .c (intsV at_) ∧ e.get 2 = str cm ∧ e.get 3 = .ref S.next 0 ∧ e.get 7 = str X ∧ e.get 9 = i64 i) ?_ cm.length _ _ ?_
  rotate_left
  · exact ⟨rfl, 0, rfl, Nat.zero_le _, by simp, by simp only [go_sem, ne_dn1, ne_up2, ne_up5, ne_up6, Nat.reduceEqDiff], by simp only [go_sem, ne_up1, ne_dn1, ne_dn2, ne_up4, ne_up5, ne_up6, Nat.reduceEqDiff], by simp only [go_sem, ne_up3, ne_up4, ne_up5, ne_up6, Nat.reduceEqDiff], by simp only [go_sem, ne_up1, ne_up2, Nat.reduceEqDiff], by simp only [go_sem, Int.cast_ofNat_Int]⟩
  rintro m' e S' ⟨rfl, i, rfl, hi, hbs, g1, g2, g3, g7, g9⟩
  rcases Nat.lt_or_ge i cm.length with hlt | hge
  · have p1 : ((i : Int) < (cm.length : Int)) := by omega
    have p2 : ¬ ((i : Int) < 0) := by omega
    have p3 : cm[i]? = some cm[i] := by simp [hlt]
    have p5 := step_wrap i (by omega)
    by_cases hb : cm[i] = 10
    · have b1 : (cm[i] == 10) = true := by simpa using hb
      simp only [g2, g9, p1, p2, p3, byte_10, b1, Int.toNat_natCast, Option.map_some, go_sem, ne_up1, ne_up2, Nat.reduceEqDiff, Nat.reduceLT]
      refine wc_is (awake h1) ?_
      simp only [go_sem, Nat.reduceLT]
      exact ends_fwd (h1.fwd hS) rfl ⟨rfl, rfl⟩
    · have b1 : (cm[i] == 10) = false := by simpa using hb
      simp only [g1, g2, g3, g7, g9, p1, p2, p3, p5, byte_10, b1, Int.toNat_natCast, Option.map_some, go_sem, ne_up1, ne_up2, ne_up6, Nat.reduceEqDiff, Nat.reduceLT]
      refine ⟨cm.length - (i + 1), by omega, i + 1, rfl, by omega, fun c hc => ?_, rfl⟩
      rw [List.take_succ_eq_append_getElem hlt] at hc
      rcases List.mem_append.1 hc with hc | hc
      · exact hbs c hc
      · rw [List.mem_singleton.1 hc]; exact hb
  have p1 : ¬ ((i : Int) < (cm.length : Int)) := by omega
  have hcm : Tx.Clean cm := by
    rw [List.take_of_length_le hge] at hbs
    exact hbs
  clear hbs hi
  have hign := fun more => hign more hcm
  have hXl : X.length ≤ 1000000000 := by omega
  simp only [g2, g7, g9, p1, go_sem, ne_up1, ne_up2, Nat.reduceEqDiff, Nat.reduceLT]
  refine wc_is (wc7 hk1 X (by omega)) ?_
  rw [hlines]
  have n0 : ((L.length : Int) == 0) = false := by rw [beq_eq_false_iff_ne]; omega
  have n1 : ((L.length : Int) = 0) = False := eq_false (by omega)
  simp only [g1, n0, List.length_map, go_sem, Nat.reduceEqDiff, Nat.reduceLT]
  have hm0 := h1.new (.map (mEnc []) [] 0)
  generalize hmb : S.next + 1 = mb at *
  have hmb' : (S.new (.blk (songA s) 0 27)).next = mb := hmb
  rw [hmb'] at hm0
  refine wloop_meas (fun m' e S' => ∃ (i : Nat) (ms : List (Int × Int)) (born : List Nat) (clock : Nat), m' = at_.length - i ∧ i ≤ at_.length ∧ (∀ p ∈ ms, 0 ≤ p.2 ∧ p.2 ≤ 2 * (i : Int)) ∧ FR S [(mb, .map (mEnc ms) born clock), (S.next, .blk (songA s) 0 27)] S' ∧
    e.get 1 = .c (intsV at_) ∧ e.get 2 = str cm ∧ e.get 3 = .ref S.next 0 ∧ e.get 7 = str X ∧ e.get 10 = i64 L.length ∧ e.get 11 = .map mb ∧ e.get 62 = .c (intsV at_) ∧ e.get 63 = i64 at_.length ∧ e.get 64 = i64 i) ?_ at_.length _ _ ?_
  rotate_left
  · exact ⟨0, [], [], 0, rfl, Nat.zero_le _, by simp, hm0, by simp only [g1, go_sem, Nat.reduceEqDiff], by simp only [g2, go_sem, Nat.reduceEqDiff], by simp only [g3, go_sem, Nat.reduceEqDiff], by simp only [g7, go_sem, ne_up3, ne_up4, Nat.reduceEqDiff], by simp only [go_sem, ne_up1, Nat.reduceEqDiff], by simp only [go_sem, Nat.reduceEqDiff], by simp only [go_sem, ne_up1, ne_up2], by simp only [go_sem, ne_up1], by simp only [go_sem, Int.cast_ofNat_Int]⟩
  clear e g1 g2 g3 g7 g9
  rintro m' e S' ⟨i, ms, born, clock, rfl, hi, hms, hF, g1, g2, g3, g7, g10, g11, g62, g63, g64⟩
  rcases Nat.lt_or_ge i at_.length with hlt | hge
  · have p1 : ((i : Int) < (at_.length : Int)) := by omega
    have p2 : ¬ ((i : Int) < 0) := by omega
    have p3 : (at_.map intV)[i]? = some (intV at_[i]) := by simp [hlt]
    have p5 := step_wrap i (by omega)
    have hg := hF.get1
    generalize at_[i] = v at *
    have hd : IntKind.i64.wrap (1 + Int.tmod (i : Int) 2) = ((1 + i % 2 : Nat) : Int) := by
      rw [show Int.tmod (i : Int) 2 = ((i % 2 : Nat) : Int) from rfl, wrap_i64 _ (by omega) (by omega)]; omega
    have hmv := mval_le (k := Int.tmod (IntKind.i64.wrap (Int.tmod v (L.length : Int) + (L.length : Int))) (L.length : Int)) (B := 2 * (i : Int)) (by omega) hms
    have hfi := findA_m (Int.tmod (IntKind.i64.wrap (Int.tmod v (L.length : Int) + (L.length : Int))) (L.length : Int)) ms
    generalize hKK : Int.tmod (IntKind.i64.wrap (Int.tmod v (L.length : Int) + (L.length : Int))) (L.length : Int) = K at *
    have hd2 : IntKind.i64.wrap (mval ms K + ((1 + i % 2 : Nat) : Int)) = mval ms K + ((1 + i % 2 : Nat) : Int) := wrap_i64 _ (by omega) (by omega)
    cases hmg : mget K ms with
    | none =>
      rw [hmg] at hfi
      have hm0 : mval ms K = 0 := by rw [mval, hmg]; rfl
      rw [hm0] at hd2
      simp only [g1, g2, g3, g7, g10, g11, g62, g63, g64, p1, p2, p3, p5, hlt, hsza, hg, n1, hKK, hfi, hd, hd2, Option.map_none, List.length_map, Int.toNat_natCast, Option.map_some, go_sem, ne_up1, ne_up2, ne_up3, ne_up4, ne_up5, ne_up6, aMapUpdate, keyFits, aLookup, Nat.reduceEqDiff, Nat.reduceLT, Int.reduceEq]
      have e1 : ∀ d : Int, mEnc ms ++ [(FV.int .i64 K, i64 d)] = mEnc (ms ++ [(K, d)]) := fun d => by simp
      rw [e1]
      refine ⟨at_.length - (i + 1), by omega, i + 1, ms ++ [(K, 0 + ((1 + i % 2 : Nat) : Int))], _, _, rfl, by omega, fun p hp => ?_, hF.put _, rfl⟩
      rcases List.mem_append.1 hp with hp | hp
      · have := hms p hp; omega
      · rw [List.mem_singleton.1 hp]; simp only; omega
    | some u =>
      rw [hmg] at hfi
      have hm0 : mval ms K = u := by rw [mval, hmg]; rfl
      rw [hm0] at hd2
      have hup := updA_m K (u + ((1 + i % 2 : Nat) : Int)) hmg
      simp only [g1, g2, g3, g7, g10, g11, g62, g63, g64, p1, p2, p3, p5, hlt, hsza, hg, n1, hKK, hfi, hd, hd2, hup, List.length_map, Int.toNat_natCast, Option.map_some, go_sem, ne_up1, ne_up2, ne_up3, ne_up4, ne_up5, ne_up6, aMapUpdate, keyFits, aLookup, Nat.reduceEqDiff, Nat.reduceLT, Int.reduceEq]
      refine ⟨at_.length - (i + 1), by omega, i + 1, mset K (u + ((1 + i % 2 : Nat) : Int)) ms, _, _, rfl, by omega, fun p hp => ?_, hF.put _, rfl⟩
      rcases mset_mem hp with hp | hp
      · have := hms p hp; omega
      · rw [hp]; rw [hm0] at hmv; omega
  have p1 : ¬ ((i : Int) < (at_.length : Int)) := by omega
  have hms : ∀ p ∈ ms, 0 ≤ p.2 ∧ p.2 ≤ 100 := fun p hp => by have := hms p hp; omega
  have hmv := fun k => mval_le (k := k) (B := 100) (by omega) hms
  clear hi hge hm0
  simp only [g7, g63, g64, p1, go_sem, Nat.reduceEqDiff, Nat.reduceLT]
  refine wc_is (wc8 X hXl _) ?_
  rw [hsplit]
  have e2 : ((L.length : Int) != (L.length : Int)) = false := bne_self_eq_false _
  obtain ⟨cap, hcap⟩ : ∃ cap : Nat, cap = X.length + 20000 := ⟨_, rfl⟩
  have w1 : IntKind.i64.wrap ((X.length : Int) + 20000) = (cap : Int) := by rw [wrap_i64 _ (by omega) (by omega)]; omega
  have w2 : (0 : Int) ≤ (cap : Int) := by omega
  have w3 : cap ≤ 140737488355328 := by omega
  have w4 : decide ((0 : Int) = (cap : Int)) = false := decide_eq_false (by omega)
  simp only [g7, g10, e2, w1, w2, w3, w4, t5b, t5s, List.length_map, Int.toNat_natCast, Int.toNat_zero, Nat.mul_one, Option.map_some, go_sem, maxLenA, ne_up1, ne_up4, Nat.reduceAdd, Nat.reduceEqDiff, Nat.reduceLT, Int.reduceLE]
  refine wloop_trim (t := 15) (b := S'.next) (len := 0) (s := 1) (T := 5) (cs := repCells cap [.c (.int .u8 0)]) (by rw [St.get_new, if_pos rfl]) (by simp) (by simp only [go_sem, Nat.reduceEqDiff]) (by omega) ?_
  have hF1 := (((hF.new (.blk (repCells cap [.c (.int .u8 0)]) 0 5)).put .dead).drop).new (.blk (byteCells []) 0 5)
  have hszL : allSize 1 (L.map FV.str) = true := allSize_strs _
  generalize hmore : (fun k : Nat => (mval ms (k : Int)).toNat) = more at *
  have hmk : ∀ k : Nat, mval ms (k : Int) = ((more k : Nat) : Int) := fun k => by
    rw [← hmore]; have := hmv (k : Int); simp only; omega
  have hm100 : ∀ k, more k ≤ 100 := fun k => by have h1 := hmk k; have h2 := hmv (k : Int); omega
  have hll : ∀ i, (Tx.flat (lawL cm more 0 (L.take i))).length ≤ 50000000 := fun i => by
    have h1 := law_len cm more hc100 hm100 (L.take i) 0
    have h2 := flat_take_len L i
    have h3 : (L.take i).length ≤ L.length := by rw [List.length_take]; omega
    rw [hX] at h2
    omega
  refine wloop_meas (fun m' e S' => ∃ (i b : Nat) (bs : Bs), m' = L.length - i ∧ i ≤ L.length ∧ bs = Tx.flat (lawL cm more 0 (L.take i)) ∧ FR S ((b, .blk (byteCells bs) 0 5) :: [(mb, .map (mEnc ms) born clock), (S.next, .blk (songA s) 0 27)]) S' ∧
    e.get 1 = .c (intsV at_) ∧ e.get 2 = str cm ∧ e.get 3 = .ref S.next 0 ∧ e.get 7 = str X ∧ e.get 10 = i64 L.length ∧ e.get 11 = .map mb ∧ e.get 14 = wordsV L ∧ e.get 93 = wordsV L ∧ e.get 94 = i64 L.length ∧ e.get 95 = i64 i ∧ e.get 15 = .sl b 0 bs.length 1 false) ?_ L.length _ _ ?_
  rotate_left
  · exact ⟨0, S'.next + 1, [], rfl, Nat.zero_le _, by simp [lawL, Tx.flat], hF1, by simp only [g1, go_sem, Nat.reduceEqDiff], by simp only [g2, go_sem, Nat.reduceEqDiff], by simp only [g3, go_sem, Nat.reduceEqDiff], by simp only [g7, go_sem, Nat.reduceEqDiff], by simp only [g10, go_sem, ne_up4, ne_up5, Nat.reduceEqDiff], by simp only [g11, go_sem, ne_up3, ne_up4, Nat.reduceEqDiff], by simp only [go_sem, ne_up1, Nat.reduceEqDiff], by simp only [go_sem, ne_up1, ne_up2, Nat.reduceEqDiff], by simp only [go_sem, ne_up1, Nat.reduceEqDiff], by simp only [go_sem, Int.cast_ofNat_Int, Nat.reduceEqDiff], by simp only [next_new, go_sem]⟩
  clear e g1 g2 g3 g7 g10 g11 g62 g63 g64 hF hF1
  rintro m' e S' ⟨i, b, bs, rfl, hi, hbs, hF, g1, g2, g3, g7, g10, g11, g14, g93, g94, g95, g15⟩
  rcases Nat.lt_or_ge i L.length with hlt | hge
  · have p1 : ((i : Int) < (L.length : Int)) := by omega
    have p2 : ¬ ((i : Int) < 0) := by omega
    have p3 : (L.map FV.str)[i]? = some (.str L[i]) := by simp [hlt]
    have p5 := step_wrap i (by omega)
    have hlw := lawL_take cm more L hlt
    have hln : L[i] ≠ [] := fun e => by
      have := (ho L[i] (List.getElem_mem hlt)).1
      rw [e] at this; simp [ignored] at this
    have hlX : (L[i]).length ≤ 200000 := by
      have := mem_flat_le (List.getElem_mem hlt)
      rw [hX] at this; omega
    generalize L[i] = line at *
    simp only [g93, g94, g95, p1, p2, p3, hlt, hszL, List.length_map, Int.toNat_natCast, Option.map_some, go_sem, ne_up1, ne_up2, ne_up3, ne_up4, Nat.reduceEqDiff, Nat.reduceLT]
    refine wloop_meas (fun m' e S' => ∃ (j b : Nat) (bs : Bs), m' = more i - j ∧ j ≤ more i ∧ bs = Tx.flat (lawL cm more 0 (L.take i) ++ (Tx.ahead cm (more i)).take j) ∧ FR S ((b, .blk (byteCells bs) 0 5) :: [(mb, .map (mEnc ms) born clock), (S.next, .blk (songA s) 0 27)]) S' ∧
      e.get 1 = .c (intsV at_) ∧ e.get 2 = str cm ∧ e.get 3 = .ref S.next 0 ∧ e.get 7 = str X ∧ e.get 10 = i64 L.length ∧ e.get 11 = .map mb ∧ e.get 14 = wordsV L ∧ e.get 93 = wordsV L ∧ e.get 94 = i64 L.length ∧ e.get 95 = i64 i ∧ e.get 15 = .sl b 0 bs.length 1 false ∧ e.get 16 = i64 i ∧ e.get 17 = str line ∧ e.get 18 = i64 j) ?_ (more i) _ _ ?_
    rotate_left
    · exact ⟨0, b, bs, rfl, Nat.zero_le _, by rw [List.take_zero, List.append_nil]; exact hbs, hF, by simp only [g1, go_sem, Nat.reduceEqDiff], by simp only [g2, go_sem, Nat.reduceEqDiff], by simp only [g3, go_sem, Nat.reduceEqDiff], by simp only [g7, go_sem, Nat.reduceEqDiff], by simp only [g10, go_sem, ne_up6, Nat.reduceEqDiff], by simp only [g11, go_sem, ne_up5, ne_up6, Nat.reduceEqDiff], by simp only [g14, go_sem, ne_up2, ne_up3, ne_up4, Nat.reduceEqDiff], by simp only [g93, go_sem, ne_up3, ne_up4, ne_up5, ne_up6, Nat.reduceEqDiff], by simp only [g94, go_sem, ne_up2, ne_up3, ne_up4, ne_up5, Nat.reduceEqDiff], by simp only [g95, go_sem, ne_up1, ne_up2, ne_up3, ne_up4, Nat.reduceEqDiff], by simp only [g15, go_sem, ne_up1, ne_up2, ne_up3, Nat.reduceEqDiff], by simp only [go_sem, ne_up1, ne_up2], by simp only [go_sem, ne_up1], by simp only [go_sem, Int.cast_ofNat_Int]⟩
    clear e g1 g2 g3 g7 g10 g11 g14 g93 g94 g95 g15 hF hbs bs b S'
    rintro m' e S' ⟨j, b, bs, rfl, hj, hbs, hF, g1, g2, g3, g7, g10, g11, g14, g93, g94, g95, g15, g16, g17, g18⟩
    have hgm := hF.drop.get1
    have hfi := findA_m (i : Int) ms
    have hgb := hF.get1
    simp only [g11, g16, g18, hgm, hfi, go_sem, ne_up1, keyFits, aLookup, Nat.reduceEqDiff, Nat.reduceLT]
    refine resK_cut (fun e' T' => T' = S' ∧ e'.get 104 = boolV (decide ((j : Int) < ((more i : Nat) : Int))) ∧ e'.get 1 = .c (intsV at_) ∧ e'.get 2 = str cm ∧ e'.get 3 = .ref S.next 0 ∧ e'.get 7 = str X ∧ e'.get 10 = i64 L.length ∧ e'.get 11 = .map mb ∧ e'.get 14 = wordsV L ∧ e'.get 93 = wordsV L ∧ e'.get 94 = i64 L.length ∧ e'.get 95 = i64 i ∧ e'.get 15 = .sl b 0 bs.length 1 false ∧ e'.get 16 = i64 i ∧ e'.get 17 = str line ∧ e'.get 18 = i64 j) ?_ ?_
    · cases hmg : mget (i : Int) ms with
      | none =>
        have hmi : mval ms (i : Int) = 0 := by rw [mval, hmg]; rfl
        rw [hmk] at hmi
        simp only [g1, g2, g3, g7, g10, g11, g14, g93, g94, g95, g15, g16, g17, g18, hmi, Option.map_none, go_sem, ne_up1, ne_up2, ne_up3, ne_up5, ne_up6, Nat.reduceEqDiff, Nat.reduceLT]
      | some u =>
        have hmi : mval ms (i : Int) = u := by rw [mval, hmg]; rfl
        rw [hmk] at hmi
        simp only [g1, g2, g3, g7, g10, g11, g14, g93, g94, g95, g15, g16, g17, g18, hmi, Option.map_some, go_sem, ne_up1, ne_up2, ne_up3, ne_up5, ne_up6, Nat.reduceEqDiff, Nat.reduceLT]
    · clear e g1 g2 g3 g7 g10 g11 g14 g93 g94 g95 g15 g16 g17 g18
      rintro e S' ⟨rfl, g104, g1, g2, g3, g7, g10, g11, g14, g93, g94, g95, g15, g16, g17, g18⟩
      have hbl : bs.length ≤ 50000300 := by
        have h1 := hll i
        have h2 := flat_ahead_le cm (more i) hc100 (hm100 i)
        have h3 := flat_take_len (Tx.ahead cm (more i)) j
        rw [hbs, flat_len_append]; omega
      have hbn : (S'.next = b) = False := hF.new_ne (List.mem_cons_self ..)
      have hbn1 : (S'.next + 1 = b) = False := eq_false (by have := hF.lt (List.mem_cons_self ..); omega)
      have hbn2 : (S'.next + 1 + 1 = b) = False := eq_false (by have := hF.lt (List.mem_cons_self ..); omega)
      have hbn3 : (S'.next + 1 + 1 + 1 = b) = False := eq_false (by have := hF.lt (List.mem_cons_self ..); omega)
      have hbn4 : (S'.next + 1 + 1 + 1 + 1 = b) = False := eq_false (by have := hF.lt (List.mem_cons_self ..); omega)
      have zl := byteCells_length bs
      have zt : (byteCells bs).take bs.length = byteCells bs := List.take_of_length_le (by omega)
      have z1 : bs.length + 1 ≤ 140737488355328 := by omega
      have z2 : ¬ (bs.length + 1 ≤ bs.length) := by omega
      by_cases hjl : j < more i
      · have b1 : decide ((j : Int) < ((more i : Nat) : Int)) = true := decide_eq_true (by omega)
        rw [b1] at g104
        have p6 := step_wrap j (by have := hm100 i; omega)
        have hat := ahead_take cm (more i) hjl
        by_cases hj0 : j = 0
        · subst hj0
          have hz0 : ((0 : Nat) : Int) = 0 := rfl
          rw [if_pos rfl] at hat
          by_cases hce : cm = []
          · subst hce
            have hb0 : byteCells [] = [] := rfl
            have zl2 : (byteCells bs ++ [AV.c (.int .u8 35)]).length = bs.length + 1 := by rw [List.length_append, zl]; rfl
            have zt2 : (byteCells bs ++ [AV.c (.int .u8 35)]).take (bs.length + 1) = byteCells bs ++ [AV.c (.int .u8 35)] := List.take_of_length_le (by omega)
            have z5 : bs.length + 1 + 1 ≤ 140737488355328 := by omega
            have z6 : ¬ (bs.length + 1 + 1 ≤ bs.length + 1) := by omega
            simp only [t5b, t5s, t5z, size_one, Option.map_some, Nat.mul_one, Nat.zero_add, Nat.zero_le, List.drop_zero, List.map_cons, List.map_nil, g1, g2, g3, g7, g10, g11, g14, g93, g94, g95, g15, g16, g17, g18, g104, hz0, hgb, hbn, zl, zt, z1, z2, zl2, zt2, z5, z6, hb0, List.length_nil, Nat.le_refl, go_sem, maxLenA, ne_up1, ne_dn1, ne_up2, ne_dn2, ne_up3, ne_dn3, ne_up4, ne_up5, wrap_i64, Nat.reduceSub, Nat.reduceEqDiff, Nat.reduceLT, Nat.reduceLeDiff, Int.reduceLE, Int.reduceNeg, Int.reduceBEq, Int.reduceAdd]
            refine ⟨more i - (0 + 1), by omega, 0 + 1, S'.next + 1 + 1 + 1, bs ++ [35] ++ [10], rfl, by omega, ?_, ?_, by simp, rfl⟩
            · rw [hat, ← List.append_assoc, Tx.flat_append, ← hbs, flat_one]; simp
            · have h9 := FR.byte (FR.byte hF 35 (.blk [.c (.int .u8 35)] 0 5)) 10 (.blk [.c (.int .u8 10)] 0 5)
              simp only [byteCells_append] at h9 ⊢
              exact h9
          · have hk0 : (cm.length = 0) = False := eq_false (fun e => hce (List.eq_nil_of_length_eq_zero e))
            have hkp : 0 < cm.length := List.length_pos_iff.2 hce
            have zk := byteCells_length cm
            have zl2 : (byteCells bs ++ [AV.c (.int .u8 35)]).length = bs.length + 1 := by rw [List.length_append, zl]; rfl
            have zt2 : (byteCells bs ++ [AV.c (.int .u8 35)]).take (bs.length + 1) = byteCells bs ++ [AV.c (.int .u8 35)] := List.take_of_length_le (by omega)
            have z5 : bs.length + 1 + cm.length ≤ 140737488355328 := by omega
            have z6 : ¬ (bs.length + 1 + cm.length ≤ bs.length + 1) := by omega
            have zl3 : (byteCells bs ++ [AV.c (.int .u8 35)] ++ byteCells cm).length = bs.length + 1 + cm.length := by rw [List.length_append, zl2, zk]
            have zt3 : (byteCells bs ++ [AV.c (.int .u8 35)] ++ byteCells cm).take (bs.length + 1 + cm.length) = byteCells bs ++ [AV.c (.int .u8 35)] ++ byteCells cm := List.take_of_length_le (by omega)
            have z7 : bs.length + 1 + cm.length + 1 ≤ 140737488355328 := by omega
            have z8 : ¬ (bs.length + 1 + cm.length + 1 ≤ bs.length + 1 + cm.length) := by omega
            simp only [t5b, t5s, t5z, size_one, Option.map_some, Nat.mul_one, Nat.zero_add, Nat.zero_le, List.drop_zero, List.map_cons, List.map_nil, g1, g2, g3, g7, g10, g11, g14, g93, g94, g95, g15, g16, g17, g18, g104, hz0, hgb, hbn, hk0, zk, zl, zt, z1, z2, zl2, zt2, z5, z6, zl3, zt3, z7, z8, Nat.le_refl, go_sem, maxLenA, ne_up1, ne_dn1, ne_up2, ne_dn2, ne_up3, ne_dn3, ne_up4, ne_up5, wrap_i64, Nat.reduceSub, Nat.reduceEqDiff, Nat.reduceLT, Nat.reduceLeDiff, Int.reduceLE, Int.reduceNeg, Int.reduceBEq, Int.reduceAdd]
            refine ⟨more i - (0 + 1), by omega, 0 + 1, S'.next + 1 + 1 + 1 + 1, bs ++ [35] ++ cm ++ [10], rfl, by omega, ?_, ?_, by (simp [Nat.add_assoc]; omega), rfl⟩
            · rw [hat, ← List.append_assoc, Tx.flat_append, ← hbs, flat_one]; simp
            · have h9 := FR.byte (FR.text (FR.byte hF 35 (.blk [.c (.int .u8 35)] 0 5)) cm) 10 (.blk [.c (.int .u8 10)] 0 5)
              simp only [byteCells_append] at h9 ⊢
              exact h9
        · have b2 : ((j : Int) == 0) = false := by rw [beq_eq_false_iff_ne]; omega
          rw [if_neg hj0] at hat
          simp only [t5b, t5s, t5z, size_one, Option.map_some, Nat.mul_one, Nat.zero_add, Nat.zero_le, List.drop_zero, List.map_cons, List.map_nil, g1, g2, g3, g7, g10, g11, g14, g93, g94, g95, g15, g16, g17, g18, g104, b2, p6, hgb, hbn, zl, zt, z1, z2, Nat.le_refl, go_sem, maxLenA, ne_up1, ne_dn1, ne_up2, ne_dn2, ne_up3, ne_dn3, ne_up4, ne_up5, Nat.reduceSub, Nat.reduceEqDiff, Nat.reduceLT, Nat.reduceLeDiff]
          refine ⟨more i - (j + 1), by omega, j + 1, S'.next + 1, bs ++ [10], rfl, by omega, ?_, FR.byte hF 10 _, by simp, rfl⟩
          rw [hat, ← List.append_assoc, Tx.flat_append, ← hbs, flat_one]; rfl
      · have b1 : decide ((j : Int) < ((more i : Nat) : Int)) = false := decide_eq_false (by omega)
        rw [b1] at g104
        have hjm : j = more i := by omega
        have hbs2 : bs ++ (line ++ [10]) = Tx.flat (lawL cm more 0 (L.take (i + 1))) := by
          have ht : (Tx.ahead cm (more i)).take (more i) = Tx.ahead cm (more i) := List.take_of_length_le (by rw [ahead_length]; exact Nat.le_refl _)
          rw [hlw, Tx.flat_append _ [line], flat_one, hbs, hjm, ht]
        have hk0 : (line.length = 0) = False := eq_false (fun e => hln (List.eq_nil_of_length_eq_zero e))
        have hkp : 0 < line.length := List.length_pos_iff.2 hln
        have zk := byteCells_length line
        have z3 : bs.length + line.length ≤ 140737488355328 := by omega
        have z4 : ¬ (bs.length + line.length ≤ bs.length) := by omega
        have zl2 : (byteCells bs ++ byteCells line).length = bs.length + line.length := by rw [List.length_append, zl, zk]
        have zt2 : (byteCells bs ++ byteCells line).take (bs.length + line.length) = byteCells bs ++ byteCells line := List.take_of_length_le (by omega)
        have z5 : bs.length + line.length + 1 ≤ 140737488355328 := by omega
        have z6 : ¬ (bs.length + line.length + 1 ≤ bs.length + line.length) := by omega
        simp only [t5b, t5s, t5z, size_one, Option.map_some, Nat.mul_one, Nat.zero_add, Nat.zero_le, List.drop_zero, List.map_cons, List.map_nil, g1, g2, g3, g7, g10, g11, g14, g93, g94, g95, g15, g17, g104, p5, hgb, hk0, zk, zl, zt, z3, z4, zl2, zt2, z5, z6, Nat.le_refl, go_sem, maxLenA, ne_up1, ne_dn1, ne_up2, ne_up4, ne_up5, Nat.reduceSub, Nat.reduceEqDiff, Nat.reduceLT, Nat.reduceLeDiff]
        refine ⟨L.length - (i + 1), by omega, i + 1, S'.next + 1 + 1, bs ++ line ++ [10], rfl, by omega, ?_, ?_, rfl, by simp [Nat.add_assoc]⟩
        · rw [← hbs2]; simp
        · have h9 := FR.byte (FR.text hF line) 10 (.blk [.c (.int .u8 10)] 0 5)
          simp only [byteCells_append] at h9 ⊢
          exact h9
  · have hiL : i = L.length := by omega
    rw [hiL, List.take_length] at hbs
    have p1 : ¬ ((i : Int) < (L.length : Int)) := by omega
    have hgb := hF.get1
    by_cases hlong : 200000 < bs.length
    · have r1 : ((bs.length : Int) > 200000) = True := by simp; omega
      simp only [g94, g95, g15, p1, r1, go_sem, Nat.reduceEqDiff, Nat.reduceLT]
      refine wc_is (awake hF) ?_
      simp only [go_sem, Nat.reduceLT]
      exact ends_fwd (hF.fwd hS) rfl ⟨rfl, rfl⟩
    have r1 : ((bs.length : Int) > 200000) = False := by simp; omega
    have hpar := hign more (by rw [← hbs]; omega)
    rw [← hbs] at hpar
    have hbo := bytesOf_cells bs
    have zl := byteCells_length bs
    have zt : (byteCells bs).take bs.length = byteCells bs := List.take_of_length_le (by omega)
    have hkS : S'.known = KN m := hF.known.trans hk
    have h9 := wc9 hkS bs (by omega) (fun s' i' h => by rw [parse_song hpar (by omega) h]; exact hz)
    rw [hpar] at h9
    have hgs := hF.drop.drop.get1
    have hsb : S.next < S'.next := hF.drop.drop.lt (List.mem_cons_self ..)
    have n1' : (S'.next = S.next) = False := eq_false (by omega)
    have n2' : (S'.next + 1 = S.next) = False := eq_false (by omega)
    have f0 : ((0 : Int) == 0) = true := rfl
    simp only [Option.map_some, Nat.mul_one, Nat.zero_add, List.drop_zero, g94, g95, g15, p1, hgb, r1, hbo, zl, zt, Nat.le_refl, go_sem, Nat.reduceEqDiff, Nat.reduceLT]
    refine wc_is h9 ?_
    have hF2 := ((hF.new (.blk zeroA 0 27)).new (.blk [i64 0, i64 0] 0 39))
    have hF3 := (FR.put_mid (L1 := [_]) hF2 (.blk (songA s) 0 27)).put (.blk [i64 0, i64 0] 0 39)
    have hF4 := hF3.sub (L' := [(S'.next + 1, .blk [i64 0, i64 0] 0 39)]) (List.Sublist.cons_cons _ (List.nil_sublist _))
    simp only [g3, n1', n2', hgs, guard39, feq_39, f0, Bool.and_self, Bool.not_true, Bool.not_false, Bool.false_eq_true, if_false, go_sem, ne_up1, ne_dn1, ne_up2, ne_up4, Nat.reduceAdd, Nat.reduceEqDiff, Nat.reduceLT, Nat.reduceLeDiff]
    refine wc_is (wc10 s hR _) ?_
    simp only [g1, Bool.not_true, Bool.not_false, List.length_map, go_sem, ne_up1, ne_up2, ne_up3, ne_up4, Nat.reduceEqDiff, Nat.reduceLT]
    refine condK_cut (fun e' T' => FR S [(S'.next + 1, .blk [i64 0, i64 0] 0 39)] T' ∧ ∃ k : Nat, k < L.length ∧ e'.get 7 = str X ∧ e'.get 14 = wordsV L ∧ e'.get 20 = .ref (S'.next + 1) 0 ∧ e'.get 21 = i64 k) ?_ ?_
    · cases at_ with
      | nil =>
        have r2 : (((([] : List Int).length : Int)) > 0) = False := by simp
        simp only [go_sem, Int.cast_ofNat_Int]
        exact ⟨hF4, 0, by omega, by simp only [g7, go_sem, Nat.reduceEqDiff], by simp only [g14, go_sem, ne_up5, ne_up6, Nat.reduceEqDiff], by simp only [go_sem, ne_up1, Nat.reduceEqDiff], by simp only [go_sem, Int.cast_ofNat_Int, Nat.reduceEqDiff]⟩
      | cons v r =>
        have r2 : ((((r.length + 1 : Nat) : Int)) > 0) = True := eq_true (by omega)
        have r3 : 0 < r.length + 1 := by omega
        have r5 : allSize 1 (intV v :: r.map intV) = true := hsza
        obtain ⟨k, hk1, hk2⟩ := tmod_in v (n := L.length) (by omega) (by omega)
        simp only [g1, g7, g10, g14, r2, r3, r5, List.getElem?_cons_zero, List.map_cons, List.length_cons, n1, hk2, List.length_map, Option.map_some, go_sem, ne_up1, ne_up5, ne_up6, Nat.reduceEqDiff, Nat.reduceLT, Int.reduceLT, Int.reduceToNat]
        exact ⟨hF4, k, hk1, rfl⟩
    · clear e g1 g2 g3 g7 g10 g11 g14 g93 g94 g95 g15
      rintro e T ⟨hF5, k, hkL, g7, g14, g20, g21⟩
      simp only [go_sem, Nat.reduceLT]
      refine wloop_meas (fun m' e T' => T' = T ∧ ∃ i : Nat, m' = k - i ∧ i ≤ k ∧ e.get 7 = str X ∧ e.get 14 = wordsV L ∧ e.get 20 = .ref (S'.next + 1) 0 ∧ e.get 21 = i64 k ∧ e.get 22 = i64 (Tx.flat (L.take i)).length ∧ e.get 23 = i64 i) ?_ k _ _ ?_
      rotate_left
      · exact ⟨rfl, 0, rfl, Nat.zero_le _, by simp only [g7, go_sem, Nat.reduceEqDiff], by simp only [g14, go_sem, Nat.reduceEqDiff], by simp only [g20, go_sem, ne_up2, ne_up3], by simp only [g21, go_sem, ne_up1, ne_up2], (by simp only [go_sem, ne_up1]; try rfl), (by simp only [go_sem, Int.cast_ofNat_Int]; try rfl)⟩
      clear e g7 g14 g20 g21
      rintro m' e T' ⟨rfl, i, rfl, hi, g7, g14, g20, g21, g22, g23⟩
      rcases Nat.lt_or_ge i k with hik | hik
      · have p1 : ((i : Int) < (k : Int)) := by omega
        have p2 : ¬ ((i : Int) < 0) := by omega
        have p4 : i < L.length := by omega
        have p3 : (L.map FV.str)[i]? = some (.str L[i]) := by simp [p4]
        have p5 := step_wrap i (by omega)
        have h6 := flat_take_len L (i + 1)
        rw [List.take_succ_eq_append_getElem p4, flat_len_append, flat_one, List.length_append, hX] at h6
        have h7 : (Tx.flat (L.take (i + 1))).length = (Tx.flat (L.take i)).length + ((L[i]).length + 1) := by
          rw [List.take_succ_eq_append_getElem p4, flat_len_append, flat_one, List.length_append]; rfl
        generalize L[i] = line at *
        have h8' : line.length ≤ 1000000 := by simp at h6; omega
        have w5 := step_wrap line.length (by omega)
        have w6 : IntKind.i64.wrap (((Tx.flat (L.take i)).length : Int) + ((line.length + 1 : Nat) : Int)) = (((Tx.flat (L.take i)).length + (line.length + 1) : Nat) : Int) := by
          rw [wrap_i64 _ (by omega) (by simp at h6; omega)]; omega
        simp only [g7, g14, g20, g21, g22, g23, p1, p2, p3, p4, p5, w5, w6, hszL, List.length_map, Int.toNat_natCast, Option.map_some, go_sem, ne_up1, ne_dn1, ne_up2, ne_up3, ne_up4, ne_up5, ne_up6, Nat.reduceEqDiff, Nat.reduceLT]
        refine ⟨k - (i + 1), by omega, i + 1, rfl, by omega, ?_, rfl⟩
        rw [h7]
      · have p1 : ¬ ((i : Int) < (k : Int)) := by omega
        have hik' : i = k := by omega
        have hp := hbeg k hkL
        have h6 := flat_take_len L k
        rw [hX] at h6
        have hpl : (X.take (Tx.flat (L.take k)).length).length ≤ 200000 := by rw [List.length_take]; omega
        have h9 := wc9 (hF5.known.trans hk) (X.take (Tx.flat (L.take k)).length) (by omega) (fun s' i' h => absurd h (parse_none hp hpl))
        rw [hp] at h9
        have z0 : (0 : Int) ≤ (((Tx.flat (L.take k)).length : Nat) : Int) := by omega
        have hg5 := hF5.get1
        subst hik'
        simp only [g7, g21, g22, g23, p1, z0, h6, Int.toNat_natCast, Nat.zero_le, List.drop_zero, go_sem, ne_up1, Nat.reduceEqDiff, Nat.reduceLT]
        refine wc_is h9 ?_
        have f1 : ((12 : Int) == 12) = true := rfl
        have f2 : ((i : Int) == (i : Int)) = true := beq_self_eq_true _
        have hF6 := hF5.put (.blk [i64 12, i64 i] 0 39)
        simp only [g20, g21, hg5, guard39, feq_39, f1, f2, Bool.and_self, Bool.false_eq_true, if_false, go_sem, ne_up1, ne_up2, ne_up5, Nat.reduceAdd, Nat.reduceEqDiff, Nat.reduceLT, Nat.reduceLeDiff]
        refine wc_is (awake hF6) ?_
        simp only [go_sem, ne_up1, Nat.reduceLT]
        exact ends_fwd (hF6.fwd hS) rfl ⟨rfl, rfl⟩
end
end Go.Proofs.YtgjnimemofmncaaGreatDoor

namespace Go.Proofs.YtgjnimemofmncaaGreatDoor
open Go.Abs Go.Tx Go.ChangeShapes Go.WideShapes Go.ChangeAt Go.RowKit
set_option maxRecDepth 100000
theorem ownGo : ownKnob Tryz.prog.godebug = none := by kernel_rfl
theorem laidGo : laidOutB Tryz.prog = true := by kernel_rfl
section
variable {H : Type} {enc : TypeId × Value → H}
theorem row_of_calls {C : Checked} {os : Os} {f : FuncId} {fn : Func} {s : ChangeSpec} {conds : List PathCond} {apart fresh handsOn again : Bool} {X : World → Array Value → Prop}
    (hX : ∀ (w w' : World) (args : Array Value), w.heap = w'.heap → X w args → X w' args)
    (own : ownKnob C.prog.godebug = none) (started : os.Started) (noInit : C.prog.inits.idxOf? f = none) (hfn : C.prog.funcs[f]? = some fn)
    (witness : ∃ (w : World) (tape : Tape) (i : Input), w.os = os ∧ (w.forCall tape i).Shaped C.prog ∧ i.vars = [] ∧ Input.okWide C.prog (w.forCall tape i) .any w.heap.size f i ∧
      ((s.pre enc C.prog fn conds apart (w.forCall tape i).memory i.args ∧ X (w.forCall tape i).memory i.args) ∧ sizedMet enc C.prog fn (OpenSpec.ofChange s) apart (w.forCall tape i).memory i.args) ∧ ({} : Assume).holds C.prog (lone (Frame.enter C.prog f i.args .normal) [] (w.forCall tape i)))
    (contract : ∀ (W : World) (base : Nat) (args : Array Value) (ds gs : List (DataW H)) (before : List MemPlace),
      (∀ (j : Nat) t v, fn.params[j]? = some t → args[j]? = some v → Value.okWide C.prog W .any base t v) →
      DataW.Whole enc C.prog fn.params.toList s.vars apart W args.toList ds gs before →
      (DataW.weightsEach C.prog (fn.params.toList ++ s.plain.varTypes C.prog) (ds ++ gs)).all (· ≤ reachBytes) = true → X W args → W.ShapedOpen C.prog →
      Calls C.prog f args W fun e W' => ∃ v, e = .returned v ∧ s.post enc C.prog fn apart fresh handsOn again W args v W') :
    ReturnsInHanded {} C os f .any (fun w args => (s.pre enc C.prog fn conds apart w args ∧ X w args) ∧ sizedMet enc C.prog fn (OpenSpec.ofChange s) apart w args) (s.post enc C.prog fn apart fresh handsOn again) := by
  refine returnsInHanded_of_calls own started noInit witness ?_
  intro w tape i _ hsh _ hok hpre _
  obtain ⟨_, _, _, fn', hfn', _, _, _, _, hval⟩ := hok
  cases Option.some.inj (hfn'.symm.trans hfn)
  obtain ⟨⟨⟨ds, gs, before, hw, hc⟩, hx⟩, hz⟩ := hpre
  refine (contract (w.forCall tape i) w.heap.size i.args ds gs before hval (DataW.Whole.of_heap (by rfl) hw) (hz.weights hw) (hX _ _ _ (by rfl) hx) hsh).mono fun e W' ⟨v, he, hp⟩ => ?_
  subst he
  exact ChangeSpec.post_blind hp
end
theorem var_row {P : Program} {w : World} {name : String} {g : Nat} {cs : Array Value} (hg : P.globalNamed name = some g) (h : w.var? P name = some cs) : ∃ T fr, w.heap[g]? = some (.cells cs T fr) := by
  unfold World.var? at h
  rw [hg] at h
  simp only [Option.bind_some] at h
  split at h
  · rename_i cs' T fr hh
    cases h
    exact ⟨T, fr, hh⟩
  · cases h
theorem known_of {W : World} (h : laidMetH Tryz.prog Rows.textIgnoresRow.laid W) (hs : W.ShapedOpen Tryz.prog) : ∃ m, ∀ p ∈ KN m, ∃ T fr, W.heap[p.1]? = some (.cells p.2.toArray T fr) := by
  obtain ⟨m, hm⟩ := cell_of_shapedOpen_int (P := Tryz.prog) (g := 0) (t := 3) (zero := #[.int .i64 0]) hs (of_decide_eq_true (by kernel_rfl)) (by kernel_rfl) rfl (by kernel_rfl) (by kernel_rfl) Tryz.underlying3
  have h0 : ∃ T fr, W.heap[0]? = some (.cells #[.int .i64 m] T fr) := by
    obtain ⟨cs, hh, hsz, _⟩ := hs.1 0 #[.int .i64 0] 3 (of_decide_eq_true (by kernel_rfl)) (by kernel_rfl)
    have hsz : cs.size = 1 := hsz
    have e : cs = #[.int .i64 m] := by
      apply Array.ext
      · exact hsz
      · intro i h1 h2
        have hi : i = 0 := by rw [hsz] at h1; omega
        subst hi
        have : W.cell? ⟨0, 0, none⟩ = some cs[0] := by simp [World.cell?, hh, h1]
        rw [this] at hm
        exact Option.some.inj hm
    subst e
    exact ⟨_, _, hh⟩
  rw [MakeChecks.laidMetH_plain _ _ _ (by kernel_rfl)] at h
  obtain ⟨ps, ⟨g1, t1, c1, f1, p1, q1, _, _, _, _, ⟨g2, t2, c2, f2, p2, q2, _, _, _, _, ⟨g, t, cs, fuel, p, q, hg, ht, hv, hd, _, _⟩, _⟩, _⟩, _⟩ := h
  have hg1 : Tryz.prog.globalNamed "internal/strconv.uint64pow10" = some 1 := by kernel_rfl
  have ht1 : (Tryz.prog.globals[1]?).map (·.type) = some 226 := by kernel_rfl
  cases Option.some.inj (hg1.symm.trans hg)
  cases Option.some.inj (ht1.symm.trans ht)
  have hcs : cs.toList = Lib.pow10Tab.map fun z => Value.int .u64 z := Lib.cells_of_tab (n := 20) Tryz.underlying226 (show Tryz.prog.underlying 200 = some (.int .u64) by kernel_rfl) (by kernel_rfl) (by kernel_rfl) hd
  obtain ⟨T1, fr1, h1⟩ := var_row hg hv
  have e1 : cs = (Lib.pow10Tab.map fun z => Value.int .u64 z).toArray := by rw [← hcs]
  refine ⟨m, fun p hp => ?_⟩
  rcases List.mem_cons.1 hp with rfl | hp
  · exact h0
  · cases List.mem_singleton.1 hp
    exact ⟨T1, fr1, by rw [h1, e1]⟩
theorem reads_ok : ∀ t ∈ Tryz.f3.params.toList, Tryz.prog.readableRec t = true ∧ t < Tryz.prog.types.size := by
  rw [Tryz.params3]
  intro t ht
  simp at ht
  rcases ht with rfl | rfl | rfl <;> exact ⟨by kernel_rfl, of_decide_eq_true (by kernel_rfl)⟩
theorem rel_args {G : Gh} {a b c : AV} {x y z : Value} (h1 : RelA G a x) (h2 : RelA G b y) (h3 : RelA G c z) : RelL G [a, b, c] [x, y, z] :=
  ⟨rfl, fun i u v hu hv => by
    match i, hu, hv with
    | 0, hu, hv => cases hu; cases hv; exact h1
    | 1, hu, hv => cases hu; cases hv; exact h2
    | 2, hu, hv => cases hu; cases hv; exact h3
    | i + 3, hu, hv => simp at hu⟩
theorem ignores_lifted (os : Os) (started : os.Started) (H : Type) (enc : TypeId × Value → H) :
    ReturnsInHanded {} Tryz.checked os 3 .any (fun w args => (Rows.textIgnoresSpec.pre enc Tryz.prog Tryz.f3 Rows.textIgnoresRow.domain false w args ∧ laidMetH Tryz.prog Rows.textIgnoresRow.laid w) ∧ sizedMet enc Tryz.prog Tryz.f3 (OpenSpec.ofChange Rows.textIgnoresSpec) false w args)
      (Rows.textIgnoresSpec.post enc Tryz.prog Tryz.f3 false true false false) := by
  refine row_of_calls (C := Tryz.checked) (X := fun w _ => laidMetH Tryz.prog Rows.textIgnoresRow.laid w) (fun _ _ _ hh h => h.of_heap hh) ownGo started (by kernel_rfl) Tryz.func3
    (ChangeSpec.witness_shaped (enc := enc) (C := Tryz.checked) (os := os) (X := fun w _ => laidMetH Tryz.prog Rows.textIgnoresRow.laid w) false (World.laidAll Tryz.prog os Rows.textIgnoresRow.laid)
      #[.agg #[.string ⟨#[]⟩, .int .i64 0, .int .i64 0, .slice none 0 0, .int .i64 0, .int .i64 0, .int .i64 0, .int .i64 0, .bool false, .slice none 0 0, .slice none 0 0, .slice none 0 0, .slice none 0 0], .slice none 0 0, .string ⟨#[]⟩] 8 (World.laidAll_os _ _ _)
      (World.shaped_of_ZipB (by kernel_rfl) (by kernel_rfl)) (by kernel_rfl) (by kernel_rfl) (by kernel_rfl)
      (by rw [MakeChecks.laidMetH_plain _ _ _ (by kernel_rfl)]; exact laidMet_laidAll _ (by kernel_rfl) (by kernel_rfl))) ?_
  intro W base args ds gs before hval0 hW hsz hL hsh
  have hval : ∀ (j : Nat) t v, Tryz.f3.params[j]? = some t → args[j]? = some v → Value.okWide Tryz.prog W .any base t v := hval0
  have hW' := hW
  obtain ⟨p, q, hA0, hV, rfl, _, _⟩ := hW
  have hA : DataW.TrodAll enc Tryz.prog W 0 (fun _ => true) true Tryz.f3.params.toList args.toList ds p := hA0
  rw [Tryz.params3] at hA hval hsz
  obtain ⟨v0, v1, v2, d0, d1, d2, p0, p1, p2, rfl, rfl, rfl, t0, t1, t2⟩ := trodAll_three hA
  obtain ⟨rfl, rfl⟩ := trodVars_none hV
  have hw : ∀ (j : Nat) t d, ([27, 22, 9] : List TypeId)[j]? = some t → ([d0, d1, d2] : List (DataW H))[j]? = some d → ∀ k ∈ d.weights Tryz.prog t, k ≤ reachBytes := fun j t d ht hd k hk => by
    have hm := DataW.weights_mem_each (P := Tryz.prog) (ts := [27, 22, 9]) (ds := [d0, d1, d2]) ht hd k hk
    have := List.all_eq_true.1 hsz k hm
    simpa using this
  obtain ⟨s, ⟨hz, hR⟩, hs⟩ := opens_arg_struct Tryz.underlying27 opens_song (hval 0 27 v0 rfl rfl) t0 (hw 0 27 d0 rfl rfl)
  obtain ⟨at_, hat, ha⟩ := opens_arg_slice Tryz.underlying22 opens_ints (hval 1 22 v1 rfl rfl) t1 (hw 1 22 d1 rfl rfl)
  obtain ⟨cm, hcm, hc⟩ := opens_arg_str Tryz.underlying9 (hval 2 9 v2 rfl rfl) t2 (hw 2 9 d2 rfl rfl)
  obtain ⟨m, hK⟩ := known_of hL hsh
  simp only [List.append_nil] at hW'
  have hcall := calls_of_wc_known hK (fun vals w => Tryz.call3 vals w) (wc3 (m := m) (S := knownSt (KN m)) rfl s hz hR at_ hat.1 cm hcm) (rel_args (.c hs) (.c ha) (.c hc))
  refine hcall.mono fun e W' ⟨he, hw⟩ => ?_
  subst he
  exact ⟨_, rfl, law_post laidGo rfl reads_ok (by kernel_rfl) Tryz.underlying4 hW' rfl rfl rfl hw⟩
theorem ignores_row : Rows.TextIgnoresSaid :=
  OpenClaim.holds_of_wide 3 Tryz.f3 rfl rfl rfl rfl rfl rfl rfl ⟨rfl, rfl, rfl, rfl, rfl⟩ rfl rfl rfl rfl rfl (by kernel_rfl) Tryz.func3 (by kernel_rfl)
    (of_decide_eq_true (by kernel_rfl)) (by unfold Func.isWrapper; first | (rw [if_pos (by decide +kernel)]; kernel_rfl) | (rw [if_neg (by decide +kernel)]; exact ⟨rfl, rfl⟩))
    (fun os started H enc _ => ignores_lifted os started H enc)
theorem ignores_hold : Rows.TextIgnoresCardSaid :=
  Claim7.holds_tied_plain_at .later [] [.data, .data, .data, .data, .pinned] true (true, "30fbf2a2236578b7d35cb29e4c7e8879eb87235334fe8c201f80290f7a25304b") true ignores_row (fun _ h => by cases h) (by kernel_rfl) (fun _ h => by cases h) textIgnores_row_tie rfl ⟨rfl, rfl⟩ (by kernel_rfl) rfl
    (fun f fn hf hfn => by
      obtain rfl : f = 3 := Option.some.inj ((show Tryz.prog.funcNamed "orchestrion/orchestrionlaw08.TextIgnores" = some 3 by kernel_rfl).symm.trans hf) |>.symm
      obtain rfl : fn = Tryz.f3 := (Option.some.inj (Tryz.func3.symm.trans hfn)).symm
      exact ⟨by kernel_rfl, fun j t ht => by
        rw [Tryz.params3] at ht
        have hm : t ∈ [27, 22, 9] := by simpa using Array.mem_of_getElem? ht
        have hall : ([27, 22, 9].all fun u => !Tryz.prog.wantsStandIn u) = true := by kernel_rfl
        exact (show Tryz.prog.wantsStandIn t = false by simpa using List.all_eq_true.1 hall t hm)⟩)
    (by kernel_rfl)
#print axioms ignores_row
#print axioms ignores_hold
end Go.Proofs.YtgjnimemofmncaaGreatDoor
