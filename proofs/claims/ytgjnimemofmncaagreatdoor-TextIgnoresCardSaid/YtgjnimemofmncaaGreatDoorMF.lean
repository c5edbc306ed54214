/-
  Walks at TextIgnores: text.Parse is parseT; Equal of equal songs is true; strings.NewReplacer and Replace; text.Format is flat of what is written; a song that is handed in, opened. Conditions: the lengths that each theorem states.
-/
import Derived.Test.YtgjnimemofmncaaGreatDoorME
set_option linter.unusedVariables false
set_option linter.unusedSimpArgs false
namespace Go.Proofs.YtgjnimemofmncaaGreatDoor
open Go.Abs Go.Tx
set_option maxHeartbeats 4000000
set_option maxRecDepth 20000
theorem we_refine {P : Program} {N : Nat} {c : Code} {Q : EQ} {D : List DA} {env : Env} {S S' : St} (hr : Refines S S') (h : WE P N c Q D env S') : WE P N c Q D env S := by
  intro G a w hE hI hD
  obtain ⟨G', k1, k2⟩ := hr G w hI
  exact wp_mono (h G' a w (hE.mono k2.le) k1 (hD.mono k2.le)) fun e a w k => PostD.trans k2 k
theorem we_shut {P : Program} {N : Nat} {c : Code} {Q : EQ} {D : List DA} {env : Env} {S : St} (h : Shut S → WE P N c Q D env S) : WE P N c Q D env S :=
  fun G a w h1 h2 h3 => h (inv_shut h2) G a w h1 h2 h3
theorem relF_agg_weak {F : Nat → Nat → Option Value} {l l' : List FV} (hl : l.length = l'.length) (h : ∀ (i : Nat) (a a' : FV), l[i]? = some a → l'[i]? = some a' → ∀ x, RelF F a x → RelF F a' x) {x : Value} (hx : RelF F (.agg l) x) : RelF F (.agg l') x := by
  cases hx with
  | agg _ vs hlen hr =>
    refine .agg _ vs (by omega) fun i a' b ha' hb => ?_
    have hi : i < l.length := by
      have := (List.getElem?_eq_some_iff.1 ha').1
      omega
    exact h i l[i] a' (by simp [hi]) ha' b (hr i l[i] b (by simp [hi]) hb)
theorem rel_pair {G : Gh} {a a' b : AV} (h : ∀ x, RelA G a x → RelA G a' x) {x : Value} (hx : RelA G (.tup [a, b]) x) : RelA G (.tup [a', b]) x := by
  cases hx with
  | tup hl hr =>
    refine .tup hl fun i c y hc hy => ?_
    match i with
    | 0 =>
      simp at hc; subst hc
      exact h y (hr 0 a y rfl hy)
    | 1 =>
      simp at hc; subst hc
      exact hr 1 _ y rfl hy
    | i + 2 => simp at hc
abbrev zeroF : FV := .agg [.str [], .int .i64 0, .int .i64 0, .nils, .int .i64 0, .int .i64 0, .int .i64 0, .int .i64 0, .bool false, .nils, .nils, .nils, .nils]
theorem rel_zero {G : Gh} {x : Value} (h : RelA G (.c zeroF) x) : RelA G (.c (songV .zero)) x := by
  cases h with
  | c h =>
    refine .c (relF_agg_weak (by rfl) (fun i a a' h1 h2 y hy => ?_) h)
    match i with
    | 0 | 1 | 2 | 4 | 5 | 6 | 7 | 8 => simp [SongV.zero] at h1 h2; subst h1; subst h2; exact hy
    | 3 | 9 | 10 | 11 | 12 => simp [SongV.zero] at h1 h2; subst h1; subst h2; exact nils_weak hy
    | i + 13 => simp at h1
theorem bnd_ok {α β : Type} {p : Rd α} {f : α → Rd β} {ls : List Bs} {i j : Nat} {b : β} (h : bnd p f ls i = .ok b j) : ∃ a k, f a ls k = .ok b j := by
  unfold bnd at h
  cases hp : p ls i with
  | ok a k => rw [hp] at h; exact ⟨a, k, h⟩
  | bad k => rw [hp] at h; cases h
  | short => rw [hp] at h; cases h
theorem headR_nil {ls : List Bs} {i j : Nat} {s : SongV} (h : headR ls i = .ok s j) : s.patterns = [] ∧ s.samples = [] ∧ s.insts = [] := by
  unfold headR at h
  obtain ⟨_, _, h⟩ := bnd_ok h
  obtain ⟨_, _, h⟩ := bnd_ok h
  obtain ⟨_, _, h⟩ := bnd_ok h
  obtain ⟨_, _, h⟩ := bnd_ok h
  obtain ⟨_, _, h⟩ := bnd_ok h
  obtain ⟨_, _, h⟩ := bnd_ok h
  obtain ⟨_, _, h⟩ := bnd_ok h
  obtain ⟨_, _, h⟩ := bnd_ok h
  obtain ⟨_, _, h⟩ := bnd_ok h
  obtain ⟨_, _, h⟩ := bnd_ok h
  obtain ⟨_, _, h⟩ := bnd_ok h
  obtain ⟨_, _, h⟩ := bnd_ok h
  obtain ⟨_, _, h⟩ := bnd_ok h
  obtain ⟨_, _, h⟩ := bnd_ok h
  obtain ⟨_, _, h⟩ := bnd_ok h
  obtain ⟨_, _, h⟩ := bnd_ok h
  obtain ⟨_, _, h⟩ := bnd_ok h
  obtain ⟨_, _, h⟩ := bnd_ok h
  obtain ⟨_, _, h⟩ := bnd_ok h
  cases h
  exact ⟨rfl, rfl, rfl⟩
theorem linesT_bound {t : Bs} (ht : t.length ≤ 200000) : (linesT t).length ≤ 1000000000 ∧ ∀ l ∈ linesT t, l.length ≤ 1000000 := by
  unfold linesT
  split
  · simp
  · have h1 := split_length (Lib.trimSuffix t [10]) [10]
    have h2 := Lib.trimSuffix_le t [10]
    refine ⟨by omega, fun l hl => ?_⟩
    have := splitK_sum [10] 0 _ _ l hl
    omega
theorem wc19w {m : Int} {S : St} (hk : S.known = KN m) (t : List UInt8) (ht : t.length ≤ 4000000000) : WC Tryz.prog 19 [str t] (Is (.c (linV (linesT t))) S) S := by
  refine wc_weak (wc19 hk t ht) ?_ ?_
  · rintro v T ⟨h1, h2⟩
    cases h1
    refine ⟨_, ⟨rfl, h2⟩, fun G x hx => ?_⟩
    by_cases h : t = []
    · subst h
      exact rel_nils hx
    · simpa only [linesV, if_neg h] using hx
  · rintro v T ⟨h1, h2⟩
    cases h1
theorem run_of {f : FuncId} {fn : Func} {c : Code} (hf : Tryz.prog.funcs[f]? = some fn) (hn : (fn.name == "runtime.NumGoroutine") = false) (hb : fn.body = some c) : ∀ vals w, Sem.run Tryz.prog (callFunc f vals) w = .ok (.enter f vals) w := by
  intro vals w
  have hn' : ¬ fn.name = "runtime.NumGoroutine" := by simpa using hn
  simp [callFunc, program, hf, hn', hb, Sem.run]
theorem run20 : ∀ vals w, Sem.run Tryz.prog (callFunc 20 vals) w = .ok (.enter 20 vals) w := run_of (fn := Tryz.f20) (by rfl) (by kernel_rfl) (by rfl)
theorem RDx.closeUp {S0 T : St} {rb i : Nat} {ls : List Bs} {s : SongV} (h : RDx S0 rb ls i s [] T) :
    ∃ T', Refines T T' ∧ FR S0 [(rb, rdO ls i (songCA s (.c (.sl (s.patterns.map patV))) (.c (.sl (s.samples.map smpV))) (.c (.sl (s.insts.map insV)))))] T' := by
  obtain ⟨pv, sv, iv, Lp, Ls, Li, hp, hs, hv, hc⟩ := h
  obtain ⟨T1, r1, h1⟩ := (hp.toIn (X := fun v => rdO ls i (songCA s v sv iv)) hc).closeUp (P := Tryz.prog) (C := fun v => rdC (linV ls) i (songCA s v sv iv)) (ro := 0) (i := 12) (U2 := 74) (e := patV) (fun T b hT => frz_rows (g := patG) (s := 2) (fun _ => rfl) ag46 sz46 hT) (fun _ => rfl) (fun _ => rfl) (fun _ _ => rfl)
  obtain ⟨T2, r2, h2⟩ := (hs.toIn (X := fun v => rdO ls i (songCA s (.c (.sl (s.patterns.map patV))) v iv)) h1).closeUp (P := Tryz.prog) (C := fun v => rdC (linV ls) i (songCA s (.c (.sl (s.patterns.map patV))) v iv)) (ro := 0) (i := 13) (U2 := 74) (e := smpV) (fun T b hT => frz_rows (g := smpG) (s := 13) (fun _ => rfl) ag48 sz48 hT) (fun _ => rfl) (fun _ => rfl) (fun _ _ => rfl)
  obtain ⟨T3, r3, h3⟩ := (hv.toIn (X := fun v => rdO ls i (songCA s (.c (.sl (s.patterns.map patV))) (.c (.sl (s.samples.map smpV))) v)) h2).closeUp (P := Tryz.prog) (C := fun v => rdC (linV ls) i (songCA s (.c (.sl (s.patterns.map patV))) (.c (.sl (s.samples.map smpV))) v)) (ro := 0) (i := 14) (U2 := 74) (e := insV) (fun T b hT => frz_rows (g := insG) (s := 33) (fun _ => rfl) ag54 sz54 hT) (fun _ => rfl) (fun _ => rfl) (fun _ _ => rfl)
  exact ⟨T3, (r1.trans r2).trans r3, h3⟩
section
variable {m : Int} {S : St}
abbrev faultV (c n : Int) : AV := .c (.agg [.int .i64 c, .int .i64 n])
def ParIs (t : Bs) (S : St) (x : CX) (T : St) : Prop :=
  T = S ∧ ∃ v, x = .ret (.tup [v, faultV (parseT validS t).2.1 (parseT validS t).2.2]) ∧ ∀ G y, RelA G v y → RelA G (.c (songV (parseT validS t).1)) y
theorem ParIs.zero {t : Bs} {c n : Int} (h : parseT validS t = (.zero, c, n)) : ParIs t S (.ret (.tup [.c zeroF, faultV c n])) S :=
  ⟨rfl, _, by rw [h], fun G y hy => by rw [h]; exact rel_zero hy⟩
abbrev zst (S : St) : St := (S.new (.blk zeroA 0 27)).new (.blk [i64 0, i64 0] 0 39)
theorem zst_get0 (S : St) : (zst S).get S.next = some (.blk zeroA 0 27) := by
  rw [St.get_new, if_neg (by rw [next_new]; omega), St.get_new, if_pos rfl]
theorem zst_get1 (S : St) : (zst S).get (S.next + 1) = some (.blk [i64 0, i64 0] 0 39) := by
  rw [St.get_new, if_pos (by rw [next_new])]
theorem par_panic {t : Bs} {S T : St} {env : Env} {code n : Int} (hS : Shut S) (hS2 : Shut (zst S)) (h2 : env.get 2 = .ref S.next 0) (h3 : env.get 3 = .ref (S.next + 1) 0) (hF : Fwd (zst S) T) (hp : parseT validS t = (.zero, code, n)) :
    bodyE Tryz.prog [.cell 2 27, .cell 3 39] S.next (ParIs t S) (.panic (stopV code n)) [(20, [.ref S.next 0, .ref (S.next + 1) 0])] env T := by
  have g0 : T.get S.next = some (.blk zeroA 0 27) := by rw [hF.get (by simp only [next_new]; omega)]; exact zst_get0 S
  have g1 : T.get (S.next + 1) = some (.blk [i64 0, i64 0] 0 39) := by rw [hF.get (by simp only [next_new]; omega)]; exact zst_get1 S
  have hn := hF.next
  simp only [next_new] at hn
  refine ⟨run20, wd20_pan g0 rfl g1 (by omega) (by omega) (by omega) ?_⟩
  have e1 : (S.next + 1 = S.next) = False := eq_false (by omega)
  have e2 : (S.next = S.next + 1) = False := eq_false (by omega)
  have hF2 : Fwd S T := Fwd.trans hS (((Fwd.refl hS).new (.blk zeroA 0 27)).new (.blk [i64 0, i64 0] 0 39)) hF
  simp only [settled, h2, h3, e1, e2, go_sem, Nat.reduceAdd, Nat.reduceLeDiff]
  exact ends_fwd (((hF2.new _).put (Nat.le_refl _) _).put (Nat.le_succ _) _) rfl (ParIs.zero hp)
theorem par_ret {t : Bs} {S T : St} {env : Env} {cs : List FV} {code n : Int} (h2 : env.get 2 = .ref S.next 0) (h3 : env.get 3 = .ref (S.next + 1) 0) (hF : Fwd S T) (g0 : T.get S.next = some (.blk (cs.map .c) 0 27)) (hl : cs.length = 13)
    (g1 : T.get (S.next + 1) = some (.blk [i64 code, i64 n] 0 39)) (hp : ParIs t S (.ret (.tup [.c (.agg cs), faultV code n])) S) :
    bodyE Tryz.prog [.cell 2 27, .cell 3 39] S.next (ParIs t S) .ret [(20, [.ref S.next 0, .ref (S.next + 1) 0])] env T := by
  refine ⟨run20, wd20_ret ?_⟩
  have hap := allPure_c cs
  have htk : List.take 13 (cs.map AV.c) = cs.map AV.c := List.take_of_length_le (by rw [List.length_map]; omega)
  simp only [settled, h2, h3, g0, g1, hl, htk, hap, List.length_map, Nat.le_refl, go_sem, Nat.reduceAdd]
  exact ends_fwd hF rfl hp
theorem wc9 (hk : S.known = KN m) (t : Bs) (ht : t.length ≤ 4000000000) (hz : ∀ s i, songR (linesT t) 0 = .ok s i → Sized s) :
    WC Tryz.prog 9 [str t] (Is (.tup [.c (songV (parseT validS t).1), faultV (parseT validS t).2.1 (parseT validS t).2.2]) S) S := by
  suffices h : WC Tryz.prog 9 [str t] (ParIs t S) S by
    refine wc_weak h ?_ ?_
    · rintro v T ⟨rfl, v', h1, h2⟩
      cases h1
      exact ⟨_, ⟨rfl, rfl⟩, fun G x hx => rel_pair (h2 G) hx⟩
    · rintro v T ⟨rfl, v', h1, h2⟩
      cases h1
  refine wc_fn_defer (fn := Tryz.f9) (N := 45) (rs := [.cell 2 27, .cell 3 39]) (by rfl) (by kernel_rfl) (by rfl) (by rfl) (by rfl) (by rfl) fun hS => ?_
  refine we_seq (we_of_w (wcode_sound ?_))
  simp only [go_sem, Nat.reduceAdd, Nat.reduceLT]
  refine we_shut fun hS2 => ?_
  refine we_seq (we_of_w (wcode_sound ?_))
  by_cases hlong : 200000 < t.length
  · have q1 : ((t.length : Int) > 200000) = True := by simp; omega
    simp only [q1, go_sem, ne_up1, ne_dn1, ne_up2, ne_up3, ne_up4, ne_up5, ne_up6, Nat.reduceAdd, Nat.reduceEqDiff, Nat.reduceLT, Nat.reduceLeDiff]
    refine (show bodyE Tryz.prog _ _ _ .ret [] _ _ from ?_)
    simp only [bodyE, go_sem, ne_up1, ne_dn1, ne_up4, ne_up5, ne_up6, Nat.reduceAdd, Nat.reduceEqDiff, Nat.reduceLeDiff]
    refine ends_fwd (by repeat (first | exact Fwd.refl hS | assumption | refine Fwd.new ?_ _ | refine Fwd.put ?_ (by first | exact Nat.le_refl _ | exact Nat.le_succ _ | exact Nat.le_add_right _ _ | omega | (simp only [next_new, next_put]; omega)) _)) rfl (ParIs.zero (by simp only [parseT, if_pos hlong]))
  · have q1 : ((t.length : Int) > 200000) = False := by simp; omega
    have hl : t.length ≤ 200000 := by omega
    simp only [q1, thenE, go_sem, ne_up2, ne_up3, Nat.reduceLT]
    refine we_seq (we_region ?_)
    refine ⟨by simp [dstOk], by rfl, .inl ⟨_, _, by rfl, ?_⟩⟩
    refine ⟨by simp [dstOk], by rfl, .inr ⟨_, by rfl, ?_⟩⟩
    refine (show WE Tryz.prog 45 _ _ _ _ _ from ?_)
    have hP : parseT validS t = (match songR (linesT t) 0 with
      | .ok s i => (match moreL ((linesT t).drop i) i with
        | (some _, j) => (.zero, 2, (j : Int) - 1)
        | (none, _) => if validS s then (s, 0, 0) else (.zero, 1, 0))
      | .bad i => (.zero, 2, i)
      | .short => (.zero, 12, (linesT t).length)) := by
      unfold parseT
      rw [if_neg hlong]
      cases songR (linesT t) 0 with
      | ok s i =>
        simp only
        cases moreL ((linesT t).drop i) i with
        | mk a b => cases a <;> rfl
      | _ => rfl
    obtain ⟨hls, hll⟩ := linesT_bound hl
    have hk2 : (zst S).known = KN m := hk
    have hR : songR (linesT t) 0 = bnd headR (fun s => Tx.bodyR 96 0 s) (linesT t) 0 := rfl
    refine we_seq (we_of_w (wcode_sound ?_))
    simp only [go_sem, ne_up1, ne_up2, ne_up3, ne_up4, ne_up5, ne_up6, mkClo, Nat.reduceEqDiff, Nat.reduceLT]
    refine wc_is (wc19w hk2 t ht) ?_
    generalize linesT t = ls at *
    simp only [thenE, go_sem, Nat.reduceAdd, Nat.reduceLT, Nat.reduceLeDiff]
    have hc := (FR.start hS2.1).new (rdO ls 0 (hdA [] 0 0 (.c .nils) 0 0 0 0 false (.c .nils)))
    generalize hrb : (zst S).next = rb at hc
    have hrb' : S.next + 1 + 1 = rb := hrb
    rw [hrb']
    refine we_seq (we_of_w (wcode_sound ?_))
    simp only [go_sem, Nat.reduceLT]
    refine (wc21 hS2 hk2 hls hll hc).mono ?_
    rintro x T hx
    rw [bnd] at hR
    cases hh : headR ls 0 with
    | bad k =>
      rw [hh] at hx hR
      obtain ⟨rfl, hF⟩ := hx
      simp only at hR
      rw [hR] at hP
      simp only [go_sem]
      exact par_panic hS hS2 (by simp only [go_sem, ne_up1, ne_up2, ne_up5, ne_up6, Nat.reduceEqDiff]) (by simp only [go_sem, ne_up1, ne_up4, ne_up5, ne_up6, Nat.reduceEqDiff]) hF hP
    | short =>
      rw [hh] at hx hR
      obtain ⟨rfl, hF⟩ := hx
      simp only at hR
      rw [hR] at hP
      simp only [go_sem]
      exact par_panic hS hS2 (by simp only [go_sem, ne_up1, ne_up2, ne_up5, ne_up6, Nat.reduceEqDiff]) (by simp only [go_sem, ne_up1, ne_up4, ne_up5, ne_up6, Nat.reduceEqDiff]) hF hP
    | ok s j =>
    rw [hh] at hx hR
    obtain ⟨rfl, hrd, hj1, hj2⟩ := hx
    simp only at hR
    simp only [thenE, go_sem]
    refine we_seq (we_of_w (wcode_sound ?_))
    simp only [go_sem, Nat.reduceEqDiff, Nat.reduceLT]
    refine (wc22 hS2 hk2 hls hll hrd (headR_nil hh) hj1 hj2).mono ?_
    rintro x T2 hx
    cases hb : Tx.bodyR 96 0 s ls j with
    | bad k =>
      rw [hb] at hx hR
      obtain ⟨rfl, hF⟩ := hx
      rw [hR] at hP
      simp only [go_sem]
      exact par_panic hS hS2 (by simp only [go_sem, ne_up1, ne_up2, ne_up5, ne_up6, Nat.reduceEqDiff]) (by simp only [go_sem, ne_up1, ne_up4, ne_up5, ne_up6, Nat.reduceEqDiff]) hF hP
    | short =>
      rw [hb] at hx hR
      obtain ⟨rfl, hF⟩ := hx
      rw [hR] at hP
      simp only [go_sem]
      exact par_panic hS hS2 (by simp only [go_sem, ne_up1, ne_up2, ne_up5, ne_up6, Nat.reduceEqDiff]) (by simp only [go_sem, ne_up1, ne_up4, ne_up5, ne_up6, Nat.reduceEqDiff]) hF hP
    | ok s2 j2 =>
    rw [hb] at hx hR
    obtain ⟨rfl, hrd2, hj21, hj22⟩ := hx
    rw [hR] at hP
    have hsz := hz s2 j2 hR
    simp only at hP
    simp only [thenE, go_sem]
    obtain ⟨T3, href, hc3⟩ := hrd2.closeUp
    refine we_refine href ?_
    have hg3 := hc3.get1
    refine we_seq (we_of_w (wcode_sound ?_))
    simp only [go_sem, Nat.reduceAdd, Nat.reduceEqDiff, Nat.reduceLT]
    refine (wc23 hg3 hj22 hls).mono ?_
    rintro x T4 ⟨rfl, rfl⟩
    have hc4 := hc3.put (rdO ls (moreL (ls.drop j2) j2).2 (songCA s2 (.c (.sl (s2.patterns.map patV))) (.c (.sl (s2.samples.map smpV))) (.c (.sl (s2.insts.map insV)))))
    have hm1 := moreL_le (ls.drop j2) j2
    have hm2 := moreL_some (ls.drop j2) j2
    cases hm : moreL (ls.drop j2) j2 with
    | mk a k =>
    rw [hm, List.length_drop] at hm1
    rw [hm] at hP hc4 hm2
    generalize T3.put rb (rdO ls k (songCA s2 (.c (.sl (s2.patterns.map patV))) (.c (.sl (s2.samples.map smpV))) (.c (.sl (s2.insts.map insV))))) = T4 at hc4 ⊢
    have hg4 := hc4.get1
    cases a with
    | some l =>
      have hk1 := (hm2 l rfl).1
      simp only at hP hk1 hm1
      simp only [Option.isSome, Option.getD, go_sem, ne_up1, ne_up2, ne_up5, Nat.reduceEqDiff, Nat.reduceLT]
      refine (wc24 hg4 (by omega) (by omega)).mono ?_
      rintro x T5 ⟨rfl, rfl⟩
      simp only [go_sem]
      exact par_panic hS hS2 (by simp only [go_sem, ne_up1, ne_up2, ne_up3, ne_up4, ne_up5, ne_up6, Nat.reduceEqDiff]) (by simp only [go_sem, ne_up1, ne_up2, ne_up3, ne_up4, ne_up5, ne_up6, Nat.reduceEqDiff]) (hc4.fwd hS2) hP
    | none =>
      simp only at hP
      simp only [thenE, Option.isSome, Option.getD, go_sem, ne_up1, ne_up5, Nat.reduceEqDiff, Nat.reduceLT]
      refine we_of_w (wcode_sound ?_)
      simp only [hg4, go_sem, ne_up1, ne_up2, Nat.reduceAdd, Nat.reduceEqDiff, Nat.reduceLT, Nat.reduceLeDiff]
      refine wc_is (wc11 s2 hsz _) ?_
      have hF := hc4.fwd hS2
      have hn := hF.next
      simp only [next_new] at hn
      have g0 : T4.get S.next = some (.blk zeroA 0 27) := by rw [hF.get (by simp only [next_new]; omega)]; exact zst_get0 S
      have g1 : T4.get (S.next + 1) = some (.blk [i64 0, i64 0] 0 39) := by rw [hF.get (by simp only [next_new]; omega)]; exact zst_get1 S
      have hF2 : Fwd S T4 := Fwd.trans hS (((Fwd.refl hS).new (.blk zeroA 0 27)).new (.blk [i64 0, i64 0] 0 39)) hF
      have e1 : (S.next + 1 = S.next) = False := eq_false (by omega)
      have e2 : (S.next = S.next + 1) = False := eq_false (by omega)
      have hrbl := hc4.ge (List.mem_cons_self ..)
      simp only [next_new] at hrbl
      have e3 : (rb = S.next) = False := eq_false (by omega)
      have e4 : (rb = S.next + 1) = False := eq_false (by omega)
      have e5 : (S.next = rb) = False := eq_false (by omega)
      have e6 : (S.next + 1 = rb) = False := eq_false (by omega)
      cases hvd : validS s2 with
      | false =>
        rw [hvd] at hP
        simp only [Bool.false_eq_true, if_false] at hP
        simp only [g0, g1, e2, go_sem, ne_up1, ne_up2, ne_up3, ne_up4, ne_up5, ne_up6, Nat.reduceAdd, Nat.reduceEqDiff, Nat.reduceLT, Nat.reduceLeDiff]
        refine par_ret (cs := [.str [], .int .i64 0, .int .i64 0, .nils, .int .i64 0, .int .i64 0, .int .i64 0, .int .i64 0, .bool false, .nils, .nils, .nils, .nils]) (by simp only [go_sem, ne_up1, ne_up2, ne_up3, ne_up4, ne_up5, ne_up6, Nat.reduceEqDiff]) (by simp only [go_sem, ne_up1, ne_up2, ne_up3, ne_up4, ne_up5, ne_up6, Nat.reduceEqDiff]) ((hF2.put (Nat.le_refl _) _).put (Nat.le_succ _) _) ?_ rfl ?_ (ParIs.zero hP)
        · rw [St.get_put, if_neg (by omega), St.get_put, if_pos rfl]; rfl
        · rw [St.get_put, if_pos rfl]
      | true =>
        rw [hvd] at hP
        simp only [if_true] at hP
        simp only [g0, g1, e2, hg4, go_sem, ne_up1, ne_up2, ne_up3, ne_up4, ne_up5, ne_up6, Nat.reduceAdd, Nat.reduceEqDiff, Nat.reduceLT, Nat.reduceLeDiff]
        refine par_ret (cs := songL s2) (by simp only [go_sem, ne_up1, ne_up2, ne_up3, ne_up4, ne_up5, ne_up6, Nat.reduceEqDiff]) (by simp only [go_sem, ne_up1, ne_up2, ne_up3, ne_up4, ne_up5, ne_up6, Nat.reduceEqDiff]) ((hF2.put (Nat.le_refl _) _).put (Nat.le_succ _) _) ?_ rfl ?_ ⟨rfl, _, by rw [hP], fun G y hy => by rw [hP]; exact hy⟩
        · rw [St.get_put, if_neg (by omega), St.get_put, if_pos rfl]; rfl
        · rw [St.get_put, if_pos rfl]
end
end Go.Proofs.YtgjnimemofmncaaGreatDoor

namespace Go.Proofs.YtgjnimemofmncaaGreatDoor
open Go.Abs Go.Tx
set_option maxHeartbeats 4000000
set_option maxRecDepth 20000
theorem byte_10 (b : UInt8) : ((b.toNat : Int) == 10) = (b == 10) := beq_byte b 10
inductive StrG (S : St) (l : List Bs) : AV → St → Prop
  | nil {T : St} (h : FR S [] T) (hl : l = []) : StrG S l (.c .nils) T
  | row {b : Nat} {T : St} (h : FR S [(b, .blk (l.map strC) 0 9)] T) (hl : 0 < l.length) : StrG S l (.sl b 0 l.length 1 false) T
theorem StrG.fr {S T : St} {l : List Bs} {v : AV} (h : StrG S l v T) : FR S [] T := by
  cases h with
  | nil h _ => exact h
  | row h _ => exact h.drop
theorem StrG.nilNew {S T : St} (h : FR S [] T) (c : Bs) : StrG S [c] (.sl (T.next + 1) 0 1 1 false) ((T.new (.blk [.c (.str c)] 0 9)).new (.blk [.c (.str c)] 0 9)) :=
  .row (l := [c]) ((h.tmp _).new (.blk ([c].map strC) 0 9)) (by simp)
theorem StrG.rowNew {S T : St} {l : List Bs} {b : Nat} (h : FR S [(b, .blk (l.map strC) 0 9)] T) (c : Bs) :
    StrG S (l ++ [c]) (.sl (T.next + 1) 0 (l.length + 1) 1 false) (((T.new (.blk [.c (.str c)] 0 9)).put b .dead).new (.blk (l.map strC ++ [.c (.str c)]) 0 9)) := by
  have h2 := ((h.tmp (.blk [.c (.str c)] 0 9)).put .dead).new (.blk (l.map strC ++ [.c (.str c)]) 0 9)
  have e1 : l.map strC ++ [.c (.str c)] = (l ++ [c]).map strC := by simp
  have e2 : l.length + 1 = (l ++ [c]).length := by simp
  rw [e1] at h2 ⊢
  rw [e2]
  exact .row (h2.sub (List.Sublist.cons_cons _ (List.nil_sublist _))) (by simp)
theorem StrG.row_ends {S T : St} {l : List Bs} {b : Nat} {R : CX → St → Prop} (hS : Shut S) (h : FR S [(b, .blk (l.map strC) 0 9)] T) (hR : R (.ret (wordsV l)) S) : ends Tryz.prog S.next R (.sl b 0 l.length 1 false) T := by
  have e : l.map strC = (l.map FV.str).map .c := by rw [List.map_map]; rfl
  have hg := h.get1
  rw [e] at hg
  refine ends_fwd_row (l := l.map FV.str) (h.fwd hS) hg ag9 sz9 (allPure_c _) (by simp) (fun _ => rfl) (h.ge (List.mem_cons_self ..)) ?_
  have := unflat_plain (l.map FV.str)
  rw [List.length_map] at this
  rw [List.drop_zero, this]
  exact hR
theorem take_more (t : Bs) {p i : Nat} (hp : p ≤ i) (hi : i < t.length) : (t.take (i + 1)).drop p = (t.take i).drop p ++ [t[i]] := by
  rw [List.take_succ_eq_append_getElem hi, List.drop_append_of_le_length (by rw [List.length_take]; omega)]
def SplIs (t : Bs) (S : St) (x : CX) (T : St) : Prop := T = S ∧ x = .ret (if splitNL t [] = [] then .c .nils else wordsV (splitNL t []))
theorem wc8' (t : Bs) (ht : t.length ≤ 1000000000) (S : St) : WC Tryz.prog 8 [str t] (SplIs t S) S := by
  refine wc_fn (fn := Tryz.f8) (N := 36) (rs := [.tmp 2]) (by rfl) (by kernel_rfl) (by rfl) (by rfl) (by rfl) (by rfl) fun hS => ?_
  simp only [go_sem, Nat.reduceAdd, Nat.reduceLT]
  refine wloop_meas (fun m' e S' => ∃ (i p : Nat) (l : List Bs) (v : AV), m' = t.length - i ∧ i ≤ t.length ∧ p ≤ i ∧ l.length ≤ i ∧ StrG S l v S' ∧ l ++ splitNL (t.drop i) ((t.take i).drop p) = splitNL t [] ∧
    e.get 0 = str t ∧ e.get 3 = v ∧ e.get 4 = i64 p ∧ e.get 5 = i64 i) ?_ t.length _ _ ?_
  · rintro m' e S' ⟨i, p, l, v, rfl, hi, hp, hll, hg, hm, g0, g3, g4, g5⟩
    rcases Nat.lt_or_ge i t.length with hlt | hge
    · have q1 : ((i : Int) < (t.length : Int)) := by omega
      have q2 : ¬ ((i : Int) < 0) := by omega
      have q3 : t[i]? = some t[i] := by simp [hlt]
      have q5 := step_wrap i (by omega)
      have htm := take_more t hp hlt
      rw [List.drop_eq_getElem_cons hlt, splitNL] at hm
      generalize hb : t[i] = c at *
      by_cases hc : c = 10
      · have b1 : (c == 10) = true := by simpa using hc
        rw [if_pos hc] at hm
        have z0 : (0 : Int) ≤ (p : Int) := by omega
        have z1 : p ≤ i := hp
        have z5 : (0 : Int) ≤ (i : Int) := by omega
        have z2 : i ≤ t.length := by omega
        have hm' : l ++ [(t.take i).drop p] ++ splitNL (t.drop (i + 1)) ((t.take (i + 1)).drop (i + 1)) = splitNL t [] := by
          have e0 : (t.take (i + 1)).drop (i + 1) = [] := List.drop_eq_nil_of_le (by rw [List.length_take]; omega)
          rw [e0, ← hm]; simp
        cases hg with
        | nil h hl0 =>
          subst hl0
          simp only [t9b, t9s, t9z, size_one, Option.map_some, Nat.mul_one, Nat.zero_add, List.drop_zero, List.map_cons, List.map_nil, g0, g3, g4, g5, q1, q2, q3, q5, byte_10, b1, z0, z1, z2, z5, Int.toNat_natCast, Nat.le_refl, go_sem, maxLenA, ne_up1, ne_dn1, ne_up2, ne_dn2, ne_up3, ne_up4, ne_up5, ne_up6, Nat.reduceMul, Nat.reduceEqDiff, Nat.reduceLT, Nat.reduceLeDiff]
          refine ⟨t.length - (i + 1), by omega, i + 1, i + 1, [(t.take i).drop p], .sl (S'.next + 1) 0 1 1 false, rfl, by omega, Nat.le_refl _, by simp, ?_, hm', rfl, rfl, rfl⟩
          exact StrG.nilNew h _
        | @row b _ h hpos =>
          have hbk := h.get1
          have hbn : (S'.next = b) = False := h.new_ne (List.mem_cons_self ..)
          have hbn2 : (S'.next + 1 = b) = False := eq_false (by have := h.lt (List.mem_cons_self ..); omega)
          have zt : (l.map strC).take l.length = l.map strC := List.take_of_length_le (by rw [List.length_map]; omega)
          have z3 : (l.length + 1) * 16 ≤ 140737488355328 := by omega
          have z4 : ¬ (l.length + 1 ≤ l.length) := by omega
          simp only [t9b, t9s, t9z, size_one, Option.map_some, Nat.mul_one, Nat.zero_add, Nat.zero_le, List.drop_zero, List.length_map, List.map_cons, List.map_nil, g0, g3, g4, g5, q1, q2, q3, q5, byte_10, b1, z0, z1, z2, z5, hbk, hbn, zt, z3, z4, Int.toNat_natCast, Nat.le_refl, go_sem, maxLenA, ne_up1, ne_dn1, ne_up2, ne_dn2, ne_up3, ne_up4, ne_up5, ne_up6, Nat.reduceSub, Nat.reduceEqDiff, Nat.reduceLT, Nat.reduceLeDiff]
          refine ⟨t.length - (i + 1), by omega, i + 1, i + 1, l ++ [(t.take i).drop p], .sl (S'.next + 1) 0 (l.length + 1) 1 false, rfl, by omega, Nat.le_refl _, by rw [List.length_append, List.length_singleton]; omega, ?_, hm', rfl, rfl, rfl⟩
          exact StrG.rowNew h _
      · have b1 : (c == 10) = false := by simpa using hc
        rw [if_neg hc, ← htm] at hm
        simp only [g0, g3, g4, g5, q1, q2, q3, q5, byte_10, b1, Int.toNat_natCast, Option.map_some, go_sem, ne_up1, ne_up2, ne_up3, ne_up4, ne_up5, ne_up6, Nat.reduceEqDiff, Nat.reduceLT]
        exact ⟨t.length - (i + 1), by omega, i + 1, p, l, v, rfl, by omega, by omega, by omega, hg, hm, rfl, rfl, rfl⟩
    · have q1 : ¬ ((i : Int) < (t.length : Int)) := by omega
      have hi' : i = t.length := by omega
      subst hi'
      rw [List.drop_eq_nil_of_le (Nat.le_refl _), splitNL] at hm
      by_cases hpl : p < t.length
      · have q2 : ((p : Int) < (t.length : Int)) := by omega
        have hne : ¬ (t.take t.length).drop p = [] := fun e => by
          have := congrArg List.length e
          rw [List.length_drop, List.length_take] at this
          simp at this; omega
        rw [if_neg hne] at hm
        have z0 : (0 : Int) ≤ (p : Int) := by omega
        have z2 : p ≤ t.length := by omega
        have hall : splitNL t [] ≠ [] := by rw [← hm]; simp
        cases hg with
        | nil h hl0 =>
          subst hl0
          simp only [t9b, t9s, t9z, size_one, Option.map_some, Nat.mul_one, Nat.zero_add, List.drop_zero, List.map_cons, List.map_nil, g0, g3, g4, g5, q1, q2, z0, z2, Int.toNat_natCast, Nat.le_refl, go_sem, maxLenA, ne_up1, ne_up2, ne_up3, ne_up4, ne_up5, ne_up6, Nat.reduceMul, Nat.reduceEqDiff, Nat.reduceLT, Nat.reduceLeDiff]
          have h5 := StrG.nilNew h ((t.take t.length).drop p)
          cases h5 with
          | @row b _ h5 _ =>
            refine StrG.row_ends (l := [(t.take t.length).drop p]) hS h5 ⟨rfl, ?_⟩
            rw [if_neg hall, ← hm]; rfl
        | @row b _ h hpos =>
          have hbk := h.get1
          have hbn : (S'.next = b) = False := h.new_ne (List.mem_cons_self ..)
          have hbn2 : (S'.next + 1 = b) = False := eq_false (by have := h.lt (List.mem_cons_self ..); omega)
          have zt : (l.map strC).take l.length = l.map strC := List.take_of_length_le (by rw [List.length_map]; omega)
          have z3 : (l.length + 1) * 16 ≤ 140737488355328 := by omega
          have z4 : ¬ (l.length + 1 ≤ l.length) := by omega
          simp only [t9b, t9s, t9z, size_one, Option.map_some, Nat.mul_one, Nat.zero_add, Nat.zero_le, List.drop_zero, List.length_map, List.map_cons, List.map_nil, g0, g3, g4, g5, q1, q2, z0, z2, hbk, hbn, zt, z3, z4, Int.toNat_natCast, Nat.le_refl, go_sem, maxLenA, ne_up1, ne_up2, ne_up3, ne_up4, ne_up5, ne_up6, Nat.reduceSub, Nat.reduceEqDiff, Nat.reduceLT, Nat.reduceLeDiff]
          have h5 := StrG.rowNew h ((t.take t.length).drop p)
          have e2 : l.length + 1 = (l ++ [(t.take t.length).drop p]).length := by simp
          rw [e2] at h5 ⊢
          cases h5 with
          | row h5 _ =>
            refine StrG.row_ends hS h5 ⟨rfl, ?_⟩
            rw [if_neg hall, ← hm]
      · have q2 : ¬ ((p : Int) < (t.length : Int)) := by omega
        have hpe : p = t.length := by omega
        subst hpe
        rw [List.drop_eq_nil_of_le (by rw [List.length_take]; omega), if_pos rfl, List.append_nil] at hm
        simp only [g0, g3, g4, g5, q1, go_sem, ne_up1, ne_up2, ne_up3, ne_up4, ne_up5, ne_up6, Nat.reduceEqDiff, Nat.reduceLT]
        cases hg with
        | nil h hl0 =>
          subst hl0
          refine ends_fwd (h.fwd hS) rfl ⟨rfl, ?_⟩
          rw [← hm]; rfl
        | @row b _ h hpos =>
          refine StrG.row_ends hS h ⟨rfl, ?_⟩
          rw [← hm, if_neg (fun e => by rw [e] at hpos; simp at hpos)]
  · exact ⟨0, 0, [], _, rfl, Nat.zero_le _, Nat.le_refl _, Nat.le_refl _, .nil (.start hS.1) rfl, by simp, by simp only [go_sem, ne_up2, ne_up3, ne_up4, ne_up5], by simp only [go_sem, ne_up1, ne_up2], by simp only [go_sem, ne_up1, Int.cast_ofNat_Int], by simp only [go_sem, Int.cast_ofNat_Int]⟩
theorem wc8 (t : Bs) (ht : t.length ≤ 1000000000) (S : St) : WC Tryz.prog 8 [str t] (Is (wordsV (splitNL t [])) S) S := by
  refine wc_weak (wc8' t ht S) ?_ ?_
  · rintro v T ⟨rfl, h2⟩
    cases h2
    refine ⟨_, ⟨rfl, rfl⟩, fun G x hx => ?_⟩
    by_cases h : splitNL t [] = []
    · rw [if_pos h] at hx
      rw [h]
      exact rel_nils hx
    · rwa [if_neg h] at hx
  · rintro v T ⟨rfl, h2⟩
    cases h2
end Go.Proofs.YtgjnimemofmncaaGreatDoor

namespace Go.Proofs.YtgjnimemofmncaaGreatDoor
open Go.Abs Go.Tx
set_option maxHeartbeats 4000000
set_option maxRecDepth 20000
theorem step_big (i : Nat) (h : i ≤ 140737488355328) : IntKind.i64.wrap ((i : Int) + 1) = ((i + 1 : Nat) : Int) := by
  rw [wrap_i64 _ (by omega) (by omega)]; rfl
theorem feq_int (d : Nat) (k : IntKind) (n : Int) (t : TypeId) (h : Tryz.prog.underlying t = some (.int k)) : feq Tryz.prog (d + 1) t (.int k n) (.int k n) = some true := by
  simp [feq, h]
theorem guard90 : Tryz.prog.eqGuardType Tryz.prog.depth 90 = false := by kernel_rfl
theorem held90 : Tryz.prog.stoodInHeld 90 = false := by kernel_rfl
theorem feq_90 (a b c d e f : Int) : feq Tryz.prog Op.maxDepth 90 (.agg [.int .i64 a, .int .i64 b, .int .i64 c, .int .i64 d, .int .i64 e, .int .i64 f]) (.agg [.int .i64 a, .int .i64 b, .int .i64 c, .int .i64 d, .int .i64 e, .int .i64 f]) = some true := by
  show feq Tryz.prog (9998 + 1 + 1) 90 _ _ = _
  have hi : ∀ n : Int, feq Tryz.prog (9998 + 1) 3 (.int .i64 n) (.int .i64 n) = some true := fun n => feq_int _ _ _ _ (by simp [Tryz.underlying3])
  have h0 := held90
  unfold feq
  simp only [Tryz.underlying90, h0]
  simp [feqFields, fpart, ag3, sz3, hi]
theorem guard95 : Tryz.prog.eqGuardType Tryz.prog.depth 95 = false := by kernel_rfl
theorem held95 : Tryz.prog.stoodInHeld 95 = false := by kernel_rfl
theorem feq_95 (a b : Int) : feq Tryz.prog Op.maxDepth 95 (.agg [.int .i64 a, .int .i64 b]) (.agg [.int .i64 a, .int .i64 b]) = some true := by
  show feq Tryz.prog (9998 + 1 + 1) 95 _ _ = _
  have hi : ∀ n : Int, feq Tryz.prog (9998 + 1) 3 (.int .i64 n) (.int .i64 n) = some true := fun n => feq_int _ _ _ _ (by simp [Tryz.underlying3])
  have h0 := held95
  unfold feq
  simp only [Tryz.underlying95, h0]
  simp [feqFields, fpart, ag3, sz3, hi]
theorem guard138 : Tryz.prog.eqGuardType Tryz.prog.depth 138 = false := by kernel_rfl
theorem held138 : Tryz.prog.stoodInHeld 138 = false := by kernel_rfl
theorem feq_138 (a b : Int) : feq Tryz.prog Op.maxDepth 138 (.agg [.int .i64 a, .int .i64 b]) (.agg [.int .i64 a, .int .i64 b]) = some true := by
  show feq Tryz.prog (9998 + 1 + 1) 138 _ _ = _
  have hi : ∀ n : Int, feq Tryz.prog (9998 + 1) 3 (.int .i64 n) (.int .i64 n) = some true := fun n => feq_int _ _ _ _ (by simp [Tryz.underlying3])
  have h0 := held138
  unfold feq
  simp only [Tryz.underlying138, h0]
  simp [feqFields, fpart, ag3, sz3, hi]
theorem wc25 (l : List Int) (hl : l.length ≤ 140737488355328) (S : St) : WC Tryz.prog 25 [.c (.sl (l.map intV)), .c (.sl (l.map intV))] (Is (boolV true) S) S := by
  have hsz : allSize 1 (l.map intV) = true := allSize_map (s := 1) intV (fun _ => rfl) l
  refine wc_fn (fn := Tryz.f25) (N := 26) (rs := [.tmp 4]) (by rfl) (by kernel_rfl) (by rfl) (by rfl) (by rfl) (by rfl) fun hS => ?_
  simp only [List.length_map, bne_self_eq_false, go_sem, ne_up1, ne_dn1, ne_up2, ne_up3, ne_up4, ne_up5, ne_up6, Nat.reduceAdd, Nat.reduceEqDiff, Nat.reduceLT]
  refine wloop_meas (fun m' e S' => S' = S ∧ ∃ i : Nat, m' = l.length - i ∧ i ≤ l.length ∧ e.get 0 = .c (.sl (l.map intV)) ∧ e.get 1 = .c (.sl (l.map intV)) ∧ e.get 12 = i64 l.length ∧ e.get 13 = i64 i) ?_ l.length _ _ ?_
  · rintro m' e S' ⟨rfl, i, rfl, hi, g0, g1, g12, g13⟩
    rcases Nat.lt_or_ge i l.length with hlt | hge
    · have q1 : ((i : Int) < (l.length : Int)) := by omega
      have q2 : ¬ ((i : Int) < 0) := by omega
      have q3 : (l.map intV)[i]? = some (intV l[i]) := by simp [hlt]
      have q5 := step_big i (by omega)
      generalize l[i] = x at *
      simp only [g12, g13, q1, go_sem, ne_up1, Nat.reduceLT]
      refine wdraw_plan ch25x6 pp25x6 (by kernel_rfl) (by kernel_rfl) (by kernel_rfl) ?_
      simp only [g0, g1, g12, g13, q2, q3, q5, hlt, hsz, bne_self_eq_false, if_false, List.length_map, Int.toNat_natCast, Option.map_some, go_sem, ne_up1, ne_up2, ne_up3, ne_up4, ne_up5, ne_up6, Nat.reduceEqDiff, Nat.reduceLT]
      exact ⟨l.length - (i + 1), by omega, i + 1, rfl, by omega, rfl⟩
    · have q1 : ¬ ((i : Int) < (l.length : Int)) := by omega
      simp only [g12, g13, q1, go_sem, Nat.reduceLT]
      exact ends_now ⟨rfl, rfl⟩
  · exact ⟨rfl, 0, rfl, Nat.zero_le _, by simp only [go_sem, ne_up4, ne_up6, Nat.reduceEqDiff], by simp only [go_sem, ne_dn1, ne_up3, ne_up5, ne_up6, Nat.reduceEqDiff], by simp only [go_sem, ne_up1], by simp only [go_sem, Int.cast_ofNat_Int]⟩
theorem wc84 (l : List C6) (hl : l.length ≤ 140737488355328) (S : St) : WC Tryz.prog 84 [.c (.sl (l.map cellV)), .c (.sl (l.map cellV))] (Is (boolV true) S) S := by
  have hsz : allSize 6 (l.map cellV) = true := allSize_map (s := 6) cellV (fun _ => rfl) l
  refine wc_fn (fn := Tryz.f84) (N := 26) (rs := [.tmp 4]) (by rfl) (by kernel_rfl) (by rfl) (by rfl) (by rfl) (by rfl) fun hS => ?_
  simp only [List.length_map, bne_self_eq_false, go_sem, ne_up1, ne_dn1, ne_up2, ne_up3, ne_up4, ne_up5, ne_up6, Nat.reduceAdd, Nat.reduceEqDiff, Nat.reduceLT]
  refine wloop_meas (fun m' e S' => S' = S ∧ ∃ i : Nat, m' = l.length - i ∧ i ≤ l.length ∧ e.get 0 = .c (.sl (l.map cellV)) ∧ e.get 1 = .c (.sl (l.map cellV)) ∧ e.get 12 = i64 l.length ∧ e.get 13 = i64 i) ?_ l.length _ _ ?_
  · rintro m' e S' ⟨rfl, i, rfl, hi, g0, g1, g12, g13⟩
    rcases Nat.lt_or_ge i l.length with hlt | hge
    · have q1 : ((i : Int) < (l.length : Int)) := by omega
      have q2 : ¬ ((i : Int) < 0) := by omega
      have q3 : (l.map cellV)[i]? = some (cellV l[i]) := by simp [hlt]
      have q5 := step_big i (by omega)
      generalize l[i] = x at *
      simp only [g12, g13, q1, go_sem, ne_up1, Nat.reduceLT]
      refine wdraw_plan ch84x6 pp84x6 (by kernel_rfl) (by kernel_rfl) (by kernel_rfl) ?_
      simp only [g0, g1, g12, g13, q2, q3, q5, hlt, hsz, guard90, feq_90, Bool.not_true, Bool.false_eq_true, if_false, List.length_map, Int.toNat_natCast, Option.map_some, go_sem, ne_up1, ne_up2, ne_up3, ne_up4, ne_up5, ne_up6, Nat.reduceAdd, Nat.reduceEqDiff, Nat.reduceLT, Nat.reduceLeDiff]
      exact ⟨l.length - (i + 1), by omega, i + 1, rfl, by omega, rfl⟩
    · have q1 : ¬ ((i : Int) < (l.length : Int)) := by omega
      simp only [g12, g13, q1, go_sem, Nat.reduceLT]
      exact ends_now ⟨rfl, rfl⟩
  · exact ⟨rfl, 0, rfl, Nat.zero_le _, by simp only [go_sem, ne_up4, ne_up6, Nat.reduceEqDiff], by simp only [go_sem, ne_dn1, ne_up3, ne_up5, ne_up6, Nat.reduceEqDiff], by simp only [go_sem, ne_up1], by simp only [go_sem, Int.cast_ofNat_Int]⟩
theorem wc85 (l : List (Int × Int)) (hl : l.length ≤ 140737488355328) (S : St) : WC Tryz.prog 85 [.c (.sl (l.map keyV)), .c (.sl (l.map keyV))] (Is (boolV true) S) S := by
  have hsz : allSize 2 (l.map keyV) = true := allSize_map (s := 2) keyV (fun _ => rfl) l
  refine wc_fn (fn := Tryz.f85) (N := 26) (rs := [.tmp 4]) (by rfl) (by kernel_rfl) (by rfl) (by rfl) (by rfl) (by rfl) fun hS => ?_
  simp only [List.length_map, bne_self_eq_false, go_sem, ne_up1, ne_dn1, ne_up2, ne_up3, ne_up4, ne_up5, ne_up6, Nat.reduceAdd, Nat.reduceEqDiff, Nat.reduceLT]
  refine wloop_meas (fun m' e S' => S' = S ∧ ∃ i : Nat, m' = l.length - i ∧ i ≤ l.length ∧ e.get 0 = .c (.sl (l.map keyV)) ∧ e.get 1 = .c (.sl (l.map keyV)) ∧ e.get 12 = i64 l.length ∧ e.get 13 = i64 i) ?_ l.length _ _ ?_
  · rintro m' e S' ⟨rfl, i, rfl, hi, g0, g1, g12, g13⟩
    rcases Nat.lt_or_ge i l.length with hlt | hge
    · have q1 : ((i : Int) < (l.length : Int)) := by omega
      have q2 : ¬ ((i : Int) < 0) := by omega
      have q3 : (l.map keyV)[i]? = some (keyV l[i]) := by simp [hlt]
      have q5 := step_big i (by omega)
      generalize l[i] = x at *
      simp only [g12, g13, q1, go_sem, ne_up1, Nat.reduceLT]
      refine wdraw_plan ch85x6 pp85x6 (by kernel_rfl) (by kernel_rfl) (by kernel_rfl) ?_
      simp only [g0, g1, g12, g13, q2, q3, q5, hlt, hsz, guard95, feq_95, Bool.not_true, Bool.false_eq_true, if_false, List.length_map, Int.toNat_natCast, Option.map_some, go_sem, ne_up1, ne_up2, ne_up3, ne_up4, ne_up5, ne_up6, Nat.reduceAdd, Nat.reduceEqDiff, Nat.reduceLT, Nat.reduceLeDiff]
      exact ⟨l.length - (i + 1), by omega, i + 1, rfl, by omega, rfl⟩
    · have q1 : ¬ ((i : Int) < (l.length : Int)) := by omega
      simp only [g12, g13, q1, go_sem, Nat.reduceLT]
      exact ends_now ⟨rfl, rfl⟩
  · exact ⟨rfl, 0, rfl, Nat.zero_le _, by simp only [go_sem, ne_up4, ne_up6, Nat.reduceEqDiff], by simp only [go_sem, ne_dn1, ne_up3, ne_up5, ne_up6, Nat.reduceEqDiff], by simp only [go_sem, ne_up1], by simp only [go_sem, Int.cast_ofNat_Int]⟩
theorem wc123 (l : List (Int × Int)) (hl : l.length ≤ 140737488355328) (S : St) : WC Tryz.prog 123 [.c (.sl (l.map keyV)), .c (.sl (l.map keyV))] (Is (boolV true) S) S := by
  have hsz : allSize 2 (l.map keyV) = true := allSize_map (s := 2) keyV (fun _ => rfl) l
  refine wc_fn (fn := Tryz.f123) (N := 26) (rs := [.tmp 4]) (by rfl) (by kernel_rfl) (by rfl) (by rfl) (by rfl) (by rfl) fun hS => ?_
  simp only [List.length_map, bne_self_eq_false, go_sem, ne_up1, ne_dn1, ne_up2, ne_up3, ne_up4, ne_up5, ne_up6, Nat.reduceAdd, Nat.reduceEqDiff, Nat.reduceLT]
  refine wloop_meas (fun m' e S' => S' = S ∧ ∃ i : Nat, m' = l.length - i ∧ i ≤ l.length ∧ e.get 0 = .c (.sl (l.map keyV)) ∧ e.get 1 = .c (.sl (l.map keyV)) ∧ e.get 12 = i64 l.length ∧ e.get 13 = i64 i) ?_ l.length _ _ ?_
  · rintro m' e S' ⟨rfl, i, rfl, hi, g0, g1, g12, g13⟩
    rcases Nat.lt_or_ge i l.length with hlt | hge
    · have q1 : ((i : Int) < (l.length : Int)) := by omega
      have q2 : ¬ ((i : Int) < 0) := by omega
      have q3 : (l.map keyV)[i]? = some (keyV l[i]) := by simp [hlt]
      have q5 := step_big i (by omega)
      generalize l[i] = x at *
      simp only [g12, g13, q1, go_sem, ne_up1, Nat.reduceLT]
      refine wdraw_plan ch123x6 pp123x6 (by kernel_rfl) (by kernel_rfl) (by kernel_rfl) ?_
      simp only [g0, g1, g12, g13, q2, q3, q5, hlt, hsz, guard138, feq_138, Bool.not_true, Bool.false_eq_true, if_false, List.length_map, Int.toNat_natCast, Option.map_some, go_sem, ne_up1, ne_up2, ne_up3, ne_up4, ne_up5, ne_up6, Nat.reduceAdd, Nat.reduceEqDiff, Nat.reduceLT, Nat.reduceLeDiff]
      exact ⟨l.length - (i + 1), by omega, i + 1, rfl, by omega, rfl⟩
    · have q1 : ¬ ((i : Int) < (l.length : Int)) := by omega
      simp only [g12, g13, q1, go_sem, Nat.reduceLT]
      exact ends_now ⟨rfl, rfl⟩
  · exact ⟨rfl, 0, rfl, Nat.zero_le _, by simp only [go_sem, ne_up4, ne_up6, Nat.reduceEqDiff], by simp only [go_sem, ne_dn1, ne_up3, ne_up5, ne_up6, Nat.reduceEqDiff], by simp only [go_sem, ne_up1], by simp only [go_sem, Int.cast_ofNat_Int]⟩
end Go.Proofs.YtgjnimemofmncaaGreatDoor

namespace Go.Proofs.YtgjnimemofmncaaGreatDoor
open Go.Abs Go.Tx
set_option maxHeartbeats 4000000
set_option maxRecDepth 20000
theorem feq_b4 (x y : Bool) : feq Tryz.prog Op.maxDepth 4 (.bool x) (.bool y) = some (x == y) := by
  show feq Tryz.prog (9999 + 1) 4 _ _ = _
  generalize 9999 = D
  simp [feq, Tryz.underlying4]
theorem wc56 (p : PatV) (h : p.cells.length ≤ 140737488355328) (S : St) : WC Tryz.prog 56 [.c (patV p), .c (patV p)] (Is (boolV true) S) S := by
  refine wc_fn (fn := Tryz.f56) (N := 17) (rs := [.tmp 4]) (by rfl) (by kernel_rfl) (by rfl) (by rfl) (by rfl) (by rfl) fun hS => ?_
  simp only [beq_self_eq_true, go_sem, ne_up1, ne_dn1, ne_up2, ne_up3, ne_up4, ne_up5, ne_up6, Nat.reduceAdd, Nat.reduceEqDiff, Nat.reduceLT]
  refine wc_is (wc84 p.cells h _) ?_
  simp only [go_sem, ne_up1, ne_up2, ne_up3, ne_up4, ne_up5, Nat.reduceLT]
  exact ends_fwd (by repeat (first | exact Fwd.refl hS | assumption | refine Fwd.new ?_ _ | refine Fwd.put ?_ (by first | exact Nat.le_refl _ | exact Nat.le_succ _ | exact Nat.le_add_right _ _ | omega | (simp only [next_new, next_put]; omega)) _)) rfl ⟨rfl, rfl⟩
theorem wc57 (x : SmpV) (h : x.data.length ≤ 140737488355328) (S : St) : WC Tryz.prog 57 [.c (smpV x), .c (smpV x)] (Is (boolV true) S) S := by
  refine wc_fn (fn := Tryz.f57) (N := 94) (rs := [.tmp 4]) (by rfl) (by kernel_rfl) (by rfl) (by rfl) (by rfl) (by rfl) fun hS => ?_
  simp only [List.append, go_sem, ne_up1, ne_dn1, ne_up2, ne_up3, Nat.reduceAdd, Nat.reduceLT]
  refine wc_is (wc25 x.data h _) ?_
  simp only [beq_self_eq_true, go_sem, ne_up1, ne_dn1, ne_up2, ne_up3, ne_up4, ne_up5, ne_up6, Nat.reduceAdd, Nat.reduceEqDiff, Nat.reduceLT]
  exact ends_fwd (by repeat (first | exact Fwd.refl hS | assumption | refine Fwd.new ?_ _ | refine Fwd.put ?_ (by first | exact Nat.le_refl _ | exact Nat.le_succ _ | exact Nat.le_add_right _ _ | omega | (simp only [next_new, next_put]; omega)) _)) rfl ⟨rfl, rfl⟩
theorem wc86 (x : EnvV) (h : x.points.length ≤ 140737488355328) (S : St) : WC Tryz.prog 86 [.c (envV x), .c (envV x)] (Is (boolV true) S) S := by
  refine wc_fn (fn := Tryz.f86) (N := 59) (rs := [.tmp 4]) (by rfl) (by kernel_rfl) (by rfl) (by rfl) (by rfl) (by rfl) fun hS => ?_
  simp only [go_sem, ne_up1, ne_dn1, ne_up2, ne_up3, Nat.reduceAdd, Nat.reduceLT]
  refine wc_is (wc123 x.points h _) ?_
  simp only [beq_self_eq_true, feq_b4, go_sem, ne_up1, ne_dn1, ne_up2, ne_up3, ne_up4, ne_up5, ne_up6, Nat.reduceAdd, Nat.reduceEqDiff, Nat.reduceLT]
  exact ends_fwd (by repeat (first | exact Fwd.refl hS | assumption | refine Fwd.new ?_ _ | refine Fwd.put ?_ (by first | exact Nat.le_refl _ | exact Nat.le_succ _ | exact Nat.le_add_right _ _ | omega | (simp only [next_new, next_put]; omega)) _)) rfl ⟨rfl, rfl⟩
theorem wc58 (x : InsV) (h : x.keys.length ≤ 140737488355328) (h1 : x.volume.points.length ≤ 140737488355328) (h2 : x.panning.points.length ≤ 140737488355328) (h3 : x.pitch.points.length ≤ 140737488355328) (S : St) :
    WC Tryz.prog 58 [.c (insV x), .c (insV x)] (Is (boolV true) S) S := by
  refine wc_fn (fn := Tryz.f58) (N := 87) (rs := [.tmp 4]) (by rfl) (by kernel_rfl) (by rfl) (by rfl) (by rfl) (by rfl) fun hS => ?_
  simp only [List.append, go_sem, ne_up1, ne_dn1, ne_up2, ne_up3, Nat.reduceAdd, Nat.reduceLT]
  refine wc_is (wc85 x.keys h _) ?_
  simp only [go_sem, ne_up1, ne_dn1, ne_up2, ne_up3, ne_up4, ne_up5, ne_up6, Nat.reduceAdd, Nat.reduceEqDiff, Nat.reduceLT, Nat.reduceLeDiff]
  refine wc_is (wc86 x.volume h1 _) ?_
  simp only [go_sem, ne_up1, ne_dn1, ne_up2, ne_up3, ne_up4, ne_up5, ne_up6, Nat.reduceAdd, Nat.reduceEqDiff, Nat.reduceLT, Nat.reduceLeDiff]
  refine wc_is (wc86 x.panning h2 _) ?_
  simp only [go_sem, ne_up1, ne_dn1, ne_up2, ne_up3, ne_up4, ne_up5, ne_up6, Nat.reduceAdd, Nat.reduceEqDiff, Nat.reduceLT, Nat.reduceLeDiff]
  refine wc_is (wc86 x.pitch h3 _) ?_
  simp only [beq_self_eq_true, go_sem, ne_up1, ne_dn1, ne_up2, ne_up3, ne_up4, ne_up5, ne_up6, Nat.reduceAdd, Nat.reduceEqDiff, Nat.reduceLT]
  exact ends_fwd (by repeat (first | exact Fwd.refl hS | assumption | refine Fwd.new ?_ _ | refine Fwd.put ?_ (by first | exact Nat.le_refl _ | exact Nat.le_succ _ | exact Nat.le_add_right _ _ | omega | (simp only [next_new, next_put]; omega)) _)) rfl ⟨rfl, rfl⟩
structure Rows (s : SongV) : Prop where
  orders : s.orders.length ≤ 140737488355328
  pans : s.pans.length ≤ 140737488355328
  patterns : s.patterns.length ≤ 140737488355328
  cells : ∀ p ∈ s.patterns, p.cells.length ≤ 140737488355328
  samples : s.samples.length ≤ 140737488355328
  data : ∀ x ∈ s.samples, x.data.length ≤ 140737488355328
  insts : s.insts.length ≤ 140737488355328
  keys : ∀ x ∈ s.insts, x.keys.length ≤ 140737488355328 ∧ x.volume.points.length ≤ 140737488355328 ∧ x.panning.points.length ≤ 140737488355328 ∧ x.pitch.points.length ≤ 140737488355328
theorem wc26 (s : SongV) (h : Rows s) (S : St) : WC Tryz.prog 26 [.c (songV s), .c (songV s)] (Is (boolV true) S) S := by
  have hszp : allSize 2 (s.patterns.map patV) = true := allSize_map (s := 2) patV (fun _ => rfl) s.patterns
  have hszs : allSize 13 (s.samples.map smpV) = true := allSize_map (s := 13) smpV (fun _ => rfl) s.samples
  have hszi : allSize 33 (s.insts.map insV) = true := allSize_map (s := 33) insV (fun _ => rfl) s.insts
  refine wc_fn (fn := Tryz.f26) (N := 90) (rs := [.tmp 4]) (by rfl) (by kernel_rfl) (by rfl) (by rfl) (by rfl) (by rfl) fun hS => ?_
  simp only [bne_self_eq_false, List.length_map, go_sem, ne_up1, ne_dn1, ne_up2, ne_up3, ne_up4, ne_up5, ne_up6, Nat.reduceAdd, Nat.reduceEqDiff, Nat.reduceLT]
  have e21 : (S.next + 1 = S.next) = False := eq_false (by omega)
  refine wloop_meas (fun m' e S' => S' = (S.new (.blk (songA s) 0 27)).new (.blk (songA s) 0 27) ∧ ∃ i : Nat, m' = s.patterns.length - i ∧ i ≤ s.patterns.length ∧ e.get 2 = .ref S.next 0 ∧ e.get 3 = .ref (S.next + 1) 0 ∧ e.get 35 = i64 s.patterns.length ∧ e.get 36 = i64 i) ?_ s.patterns.length _ _ ?_
  rotate_left
  · exact ⟨rfl, 0, rfl, Nat.zero_le _, by simp only [go_sem, ne_up1, ne_up2, ne_up6, Nat.reduceEqDiff], by simp only [go_sem, ne_up1, ne_up5, ne_up6, Nat.reduceEqDiff], by simp only [go_sem, ne_up1], by simp only [go_sem, Int.cast_ofNat_Int]⟩
  rintro m' e S' ⟨rfl, i, rfl, hi, g2, g3, gc, gi⟩
  rcases Nat.lt_or_ge i s.patterns.length with hlt | hge
  · have q1 : ((i : Int) < (s.patterns.length : Int)) := by omega
    have q2 : ¬ ((i : Int) < 0) := by omega
    have q3 : (s.patterns.map patV)[i]? = some (patV s.patterns[i]) := by simp [hlt]
    have q5 := step_big i (by have := h.patterns; omega)
    have hm : s.patterns[i] ∈ s.patterns := List.getElem_mem hlt
    generalize s.patterns[i] = x at *
    simp only [gc, gi, q1, go_sem, ne_up1, Nat.reduceLT]
    refine wdraw_plan ch26x6 pp26x6 (by kernel_rfl) (by kernel_rfl) (by kernel_rfl) ?_
    simp only [g2, g3, e21, q2, q3, hlt, hszp, List.length_map, Int.toNat_natCast, Option.map_some, go_sem, ne_up1, ne_dn1, ne_up2, ne_up3, ne_up4, ne_up5, Nat.reduceAdd, Nat.reduceEqDiff, Nat.reduceLT, Nat.reduceLeDiff]
    refine ⟨_, wc56 x (h.cells x hm) _, ?_⟩
    simp only [g2, g3, gc, gi, q5, go_sem, ne_up1, ne_up2, ne_up3, ne_up4, ne_up5, ne_up6, Nat.reduceEqDiff, Nat.reduceLT]
    exact ⟨s.patterns.length - (i + 1), by omega, i + 1, rfl, by omega, rfl⟩
  have q1 : ¬ ((i : Int) < (s.patterns.length : Int)) := by omega
  simp only [g2, gc, gi, q1, e21, List.length_map, go_sem, Nat.reduceAdd, Nat.reduceEqDiff, Nat.reduceLT]
  clear q1 hge gi gc hi i
  refine wloop_meas (fun m' e S' => S' = (S.new (.blk (songA s) 0 27)).new (.blk (songA s) 0 27) ∧ ∃ i : Nat, m' = s.samples.length - i ∧ i ≤ s.samples.length ∧ e.get 2 = .ref S.next 0 ∧ e.get 3 = .ref (S.next + 1) 0 ∧ e.get 54 = i64 s.samples.length ∧ e.get 55 = i64 i) ?_ s.samples.length _ _ ?_
  rotate_left
  · exact ⟨rfl, 0, rfl, Nat.zero_le _, by simp only [g2, go_sem, Nat.reduceEqDiff], by simp only [g3, go_sem, Nat.reduceEqDiff], by simp only [go_sem, ne_up1], by simp only [go_sem, Int.cast_ofNat_Int]⟩
  rintro m' e S' ⟨rfl, i, rfl, hi, g2, g3, gc, gi⟩
  rcases Nat.lt_or_ge i s.samples.length with hlt | hge
  · have q1 : ((i : Int) < (s.samples.length : Int)) := by omega
    have q2 : ¬ ((i : Int) < 0) := by omega
    have q3 : (s.samples.map smpV)[i]? = some (smpV s.samples[i]) := by simp [hlt]
    have q5 := step_big i (by have := h.samples; omega)
    have hm : s.samples[i] ∈ s.samples := List.getElem_mem hlt
    generalize s.samples[i] = x at *
    simp only [gc, gi, q1, go_sem, ne_up1, Nat.reduceLT]
    refine wdraw_plan ch26x12 pp26x12 (by kernel_rfl) (by kernel_rfl) (by kernel_rfl) ?_
    simp only [g2, g3, e21, q2, q3, hlt, hszs, List.length_map, Int.toNat_natCast, Option.map_some, go_sem, ne_up1, ne_dn1, ne_up2, ne_up3, ne_up4, ne_up5, Nat.reduceAdd, Nat.reduceEqDiff, Nat.reduceLT, Nat.reduceLeDiff]
    refine ⟨_, wc57 x (h.data x hm) _, ?_⟩
    simp only [g2, g3, gc, gi, q5, go_sem, ne_up1, ne_up2, ne_up3, ne_up4, ne_up5, ne_up6, Nat.reduceEqDiff, Nat.reduceLT]
    exact ⟨s.samples.length - (i + 1), by omega, i + 1, rfl, by omega, rfl⟩
  have q1 : ¬ ((i : Int) < (s.samples.length : Int)) := by omega
  simp only [g2, gc, gi, q1, e21, List.length_map, go_sem, Nat.reduceAdd, Nat.reduceEqDiff, Nat.reduceLT]
  clear q1 hge gi gc hi i
  refine wloop_meas (fun m' e S' => S' = (S.new (.blk (songA s) 0 27)).new (.blk (songA s) 0 27) ∧ ∃ i : Nat, m' = s.insts.length - i ∧ i ≤ s.insts.length ∧ e.get 2 = .ref S.next 0 ∧ e.get 3 = .ref (S.next + 1) 0 ∧ e.get 73 = i64 s.insts.length ∧ e.get 74 = i64 i) ?_ s.insts.length _ _ ?_
  rotate_left
  · exact ⟨rfl, 0, rfl, Nat.zero_le _, by simp only [g2, go_sem, Nat.reduceEqDiff], by simp only [g3, go_sem, Nat.reduceEqDiff], by simp only [go_sem, ne_up1], by simp only [go_sem, Int.cast_ofNat_Int]⟩
  rintro m' e S' ⟨rfl, i, rfl, hi, g2, g3, gc, gi⟩
  rcases Nat.lt_or_ge i s.insts.length with hlt | hge
  · have q1 : ((i : Int) < (s.insts.length : Int)) := by omega
    have q2 : ¬ ((i : Int) < 0) := by omega
    have q3 : (s.insts.map insV)[i]? = some (insV s.insts[i]) := by simp [hlt]
    have q5 := step_big i (by have := h.insts; omega)
    have hm : s.insts[i] ∈ s.insts := List.getElem_mem hlt
    generalize s.insts[i] = x at *
    simp only [gc, gi, q1, go_sem, ne_up1, Nat.reduceLT]
    refine wdraw_plan ch26x18 pp26x18 (by kernel_rfl) (by kernel_rfl) (by kernel_rfl) ?_
    simp only [g2, g3, e21, q2, q3, hlt, hszi, List.length_map, Int.toNat_natCast, Option.map_some, go_sem, ne_up1, ne_dn1, ne_up2, ne_up3, ne_up4, ne_up5, Nat.reduceAdd, Nat.reduceEqDiff, Nat.reduceLT, Nat.reduceLeDiff]
    refine ⟨_, wc58 x (h.keys x hm).1 (h.keys x hm).2.1 (h.keys x hm).2.2.1 (h.keys x hm).2.2.2 _, ?_⟩
    simp only [g2, g3, gc, gi, q5, go_sem, ne_up1, ne_up2, ne_up3, ne_up4, ne_up5, ne_up6, Nat.reduceEqDiff, Nat.reduceLT]
    exact ⟨s.insts.length - (i + 1), by omega, i + 1, rfl, by omega, rfl⟩
  have q1 : ¬ ((i : Int) < (s.insts.length : Int)) := by omega
  simp only [gc, gi, q1, go_sem, Nat.reduceLT]
  exact ends_fwd (by repeat (first | exact Fwd.refl hS | assumption | refine Fwd.new ?_ _ | refine Fwd.put ?_ (by first | exact Nat.le_refl _ | exact Nat.le_succ _ | exact Nat.le_add_right _ _ | omega | (simp only [next_new, next_put]; omega)) _)) rfl ⟨rfl, rfl⟩
theorem wc10 (s : SongV) (h : Rows s) (S : St) : WC Tryz.prog 10 [.c (songV s), .c (songV s)] (Is (boolV true) S) S := by
  refine wc_fn (fn := Tryz.f10) (N := 78) (rs := [.tmp 4]) (by rfl) (by kernel_rfl) (by rfl) (by rfl) (by rfl) (by rfl) fun hS => ?_
  simp only [beq_self_eq_true, List.append, go_sem, ne_up1, ne_dn1, ne_up2, ne_up3, ne_up4, ne_up5, ne_up6, Nat.reduceAdd, Nat.reduceEqDiff, Nat.reduceLT]
  refine wc_is (wc25 s.orders h.orders _) ?_
  simp only [beq_self_eq_true, feq_b4, go_sem, ne_up1, ne_dn1, ne_up2, ne_up3, ne_up4, ne_up5, ne_up6, Nat.reduceAdd, Nat.reduceEqDiff, Nat.reduceLT]
  refine wc_is (wc25 s.pans h.pans _) ?_
  simp only [go_sem, ne_up1, ne_dn1, ne_up2, ne_up3, ne_up4, ne_up5, ne_up6, Nat.reduceAdd, Nat.reduceEqDiff, Nat.reduceLT, Nat.reduceLeDiff]
  refine wc_is (wc26 s h _) ?_
  simp only [go_sem, ne_up1, ne_up2, ne_up3, Nat.reduceLT]
  exact ends_fwd (by repeat (first | exact Fwd.refl hS | assumption | refine Fwd.new ?_ _ | refine Fwd.put ?_ (by first | exact Nat.le_refl _ | exact Nat.le_succ _ | exact Nat.le_add_right _ _ | omega | (simp only [next_new, next_put]; omega)) _)) rfl ⟨rfl, rfl⟩
end Go.Proofs.YtgjnimemofmncaaGreatDoor

namespace Go.Proofs.YtgjnimemofmncaaGreatDoor
open Go.Abs Go.Tx
set_option maxRecDepth 20000
section
variable {H : Type} {enc : TypeId × Value → H} {w : World} {base : Nat} {sp : Nat → Bool} {held : Bool}
theorem opens_i : Opens enc Tryz.prog w base sp held 3 (fun n : Int => [intV n]) (fun _ => True) := opens_int Tryz.underlying3
theorem opens_b : Opens enc Tryz.prog w base sp held 4 (fun b : Bool => [FV.bool b]) (fun _ => True) := opens_bool Tryz.underlying4
theorem opens_s : Opens enc Tryz.prog w base sp held 9 (fun s : List UInt8 => [FV.str s]) (fun s => s.length ≤ 140737488355328) := opens_str Tryz.underlying9
theorem opens_ints : Opens enc Tryz.prog w base sp held 22 (fun l : List Int => [FV.sl (l.map intV)]) (fun l => l.length ≤ 140737488355328 ∧ ∀ x ∈ l, (fun _ => True) x) :=
  opens_slice Tryz.underlying22 (e := 3) (s := 1) (by kernel_rfl) (by decide) (Nat.le_of_ble_eq_true (by kernel_rfl)) (fun _ => rfl) opens_i
theorem opens_cell : Opens enc Tryz.prog w base sp held 90 (fun x : C6 => (cellV x).cells) (fun _ => True) := by
  intro n cs x hx hw
  have hl := opens_size Tryz.underlying90 hx (k := 6) (by kernel_rfl)
  obtain ⟨a0, b0, r0⟩ := opens_field Tryz.underlying90 hx hw 0 rfl (k := 1) (o := 0) (tt := 3) rfl rfl (by kernel_rfl) opens_i
  obtain ⟨a1, b1, r1⟩ := opens_field Tryz.underlying90 hx hw 1 rfl (k := 1) (o := 1) (tt := 3) rfl rfl (by kernel_rfl) opens_i
  obtain ⟨a2, b2, r2⟩ := opens_field Tryz.underlying90 hx hw 2 rfl (k := 1) (o := 2) (tt := 3) rfl rfl (by kernel_rfl) opens_i
  obtain ⟨a3, b3, r3⟩ := opens_field Tryz.underlying90 hx hw 3 rfl (k := 1) (o := 3) (tt := 3) rfl rfl (by kernel_rfl) opens_i
  obtain ⟨a4, b4, r4⟩ := opens_field Tryz.underlying90 hx hw 4 rfl (k := 1) (o := 4) (tt := 3) rfl rfl (by kernel_rfl) opens_i
  obtain ⟨a5, b5, r5⟩ := opens_field Tryz.underlying90 hx hw 5 rfl (k := 1) (o := 5) (tt := 3) rfl rfl (by kernel_rfl) opens_i
  exact ⟨(a0, a1, a2, a3, a4, a5), trivial, RelC.whole (r0.piece (r1.piece (r2.piece (r3.piece (r4.piece (r5.piece (RelC.done hl)))))))⟩
theorem opens_cells : Opens enc Tryz.prog w base sp held 44 (fun l : List C6 => [FV.sl (l.map cellV)]) (fun l => l.length ≤ 140737488355328 ∧ ∀ x ∈ l, (fun _ => True) x) :=
  opens_slice Tryz.underlying44 (e := 90) (s := 6) (by kernel_rfl) (by decide) (Nat.le_of_ble_eq_true (by kernel_rfl)) (fun _ => rfl) opens_cell
theorem opens_pat : Opens enc Tryz.prog w base sp held 46 (fun x : PatV => (patV x).cells) (fun x => x.cells.length ≤ 140737488355328) := by
  intro n cs x hx hw
  have hl := opens_size Tryz.underlying46 hx (k := 2) (by kernel_rfl)
  obtain ⟨a0, b0, r0⟩ := opens_field Tryz.underlying46 hx hw 0 rfl (k := 1) (o := 0) (tt := 3) rfl rfl (by kernel_rfl) opens_i
  obtain ⟨a1, b1, r1⟩ := opens_field Tryz.underlying46 hx hw 1 rfl (k := 1) (o := 1) (tt := 44) rfl rfl (by kernel_rfl) opens_cells
  exact ⟨⟨a0, a1⟩, b1.1, RelC.whole (r0.piece (r1.piece (RelC.done hl)))⟩
theorem opens_pats : Opens enc Tryz.prog w base sp held 23 (fun l : List PatV => [FV.sl (l.map patV)]) (fun l => l.length ≤ 140737488355328 ∧ ∀ x ∈ l, (fun x => x.cells.length ≤ 140737488355328) x) :=
  opens_slice Tryz.underlying23 (e := 46) (s := 2) (by kernel_rfl) (by decide) (Nat.le_of_ble_eq_true (by kernel_rfl)) (fun _ => rfl) opens_pat
theorem opens_smp : Opens enc Tryz.prog w base sp held 48 (fun x : SmpV => (smpV x).cells) (fun x => x.data.length ≤ 140737488355328) := by
  intro n cs x hx hw
  have hl := opens_size Tryz.underlying48 hx (k := 13) (by kernel_rfl)
  obtain ⟨a0, b0, r0⟩ := opens_field Tryz.underlying48 hx hw 0 rfl (k := 1) (o := 0) (tt := 9) rfl rfl (by kernel_rfl) opens_s
  obtain ⟨a1, b1, r1⟩ := opens_field Tryz.underlying48 hx hw 1 rfl (k := 1) (o := 1) (tt := 22) rfl rfl (by kernel_rfl) opens_ints
  obtain ⟨a2, b2, r2⟩ := opens_field Tryz.underlying48 hx hw 2 rfl (k := 1) (o := 2) (tt := 3) rfl rfl (by kernel_rfl) opens_i
  obtain ⟨a3, b3, r3⟩ := opens_field Tryz.underlying48 hx hw 3 rfl (k := 1) (o := 3) (tt := 3) rfl rfl (by kernel_rfl) opens_i
  obtain ⟨a4, b4, r4⟩ := opens_field Tryz.underlying48 hx hw 4 rfl (k := 1) (o := 4) (tt := 3) rfl rfl (by kernel_rfl) opens_i
  obtain ⟨a5, b5, r5⟩ := opens_field Tryz.underlying48 hx hw 5 rfl (k := 1) (o := 5) (tt := 3) rfl rfl (by kernel_rfl) opens_i
  obtain ⟨a6, b6, r6⟩ := opens_field Tryz.underlying48 hx hw 6 rfl (k := 1) (o := 6) (tt := 3) rfl rfl (by kernel_rfl) opens_i
  obtain ⟨a7, b7, r7⟩ := opens_field Tryz.underlying48 hx hw 7 rfl (k := 1) (o := 7) (tt := 3) rfl rfl (by kernel_rfl) opens_i
  obtain ⟨a8, b8, r8⟩ := opens_field Tryz.underlying48 hx hw 8 rfl (k := 1) (o := 8) (tt := 3) rfl rfl (by kernel_rfl) opens_i
  obtain ⟨a9, b9, r9⟩ := opens_field Tryz.underlying48 hx hw 9 rfl (k := 1) (o := 9) (tt := 3) rfl rfl (by kernel_rfl) opens_i
  obtain ⟨a10, b10, r10⟩ := opens_field Tryz.underlying48 hx hw 10 rfl (k := 1) (o := 10) (tt := 3) rfl rfl (by kernel_rfl) opens_i
  obtain ⟨a11, b11, r11⟩ := opens_field Tryz.underlying48 hx hw 11 rfl (k := 1) (o := 11) (tt := 3) rfl rfl (by kernel_rfl) opens_i
  obtain ⟨a12, b12, r12⟩ := opens_field Tryz.underlying48 hx hw 12 rfl (k := 1) (o := 12) (tt := 3) rfl rfl (by kernel_rfl) opens_i
  exact ⟨⟨a0, a1, a2, a3, a4, a5, a6, a7, a8, a9, a10, a11, a12⟩, b1.1, RelC.whole (r0.piece (r1.piece (r2.piece (r3.piece (r4.piece (r5.piece (r6.piece (r7.piece (r8.piece (r9.piece (r10.piece (r11.piece (r12.piece (RelC.done hl))))))))))))))⟩
theorem opens_smps : Opens enc Tryz.prog w base sp held 24 (fun l : List SmpV => [FV.sl (l.map smpV)]) (fun l => l.length ≤ 140737488355328 ∧ ∀ x ∈ l, (fun x => x.data.length ≤ 140737488355328) x) :=
  opens_slice Tryz.underlying24 (e := 48) (s := 13) (by kernel_rfl) (by decide) (Nat.le_of_ble_eq_true (by kernel_rfl)) (fun _ => rfl) opens_smp
theorem opens_key : Opens enc Tryz.prog w base sp held 95 (fun x : Int × Int => (keyV x).cells) (fun _ => True) := by
  intro n cs x hx hw
  have hl := opens_size Tryz.underlying95 hx (k := 2) (by kernel_rfl)
  obtain ⟨a0, b0, r0⟩ := opens_field Tryz.underlying95 hx hw 0 rfl (k := 1) (o := 0) (tt := 3) rfl rfl (by kernel_rfl) opens_i
  obtain ⟨a1, b1, r1⟩ := opens_field Tryz.underlying95 hx hw 1 rfl (k := 1) (o := 1) (tt := 3) rfl rfl (by kernel_rfl) opens_i
  exact ⟨(a0, a1), trivial, RelC.whole (r0.piece (r1.piece (RelC.done hl)))⟩
theorem opens_keys : Opens enc Tryz.prog w base sp held 49 (fun l : List (Int × Int) => [FV.sl (l.map keyV)]) (fun l => l.length ≤ 140737488355328 ∧ ∀ x ∈ l, (fun _ => True) x) :=
  opens_slice Tryz.underlying49 (e := 95) (s := 2) (by kernel_rfl) (by decide) (Nat.le_of_ble_eq_true (by kernel_rfl)) (fun _ => rfl) opens_key
theorem opens_pt : Opens enc Tryz.prog w base sp held 138 (fun x : Int × Int => (keyV x).cells) (fun _ => True) := by
  intro n cs x hx hw
  have hl := opens_size Tryz.underlying138 hx (k := 2) (by kernel_rfl)
  obtain ⟨a0, b0, r0⟩ := opens_field Tryz.underlying138 hx hw 0 rfl (k := 1) (o := 0) (tt := 3) rfl rfl (by kernel_rfl) opens_i
  obtain ⟨a1, b1, r1⟩ := opens_field Tryz.underlying138 hx hw 1 rfl (k := 1) (o := 1) (tt := 3) rfl rfl (by kernel_rfl) opens_i
  exact ⟨(a0, a1), trivial, RelC.whole (r0.piece (r1.piece (RelC.done hl)))⟩
theorem opens_pts : Opens enc Tryz.prog w base sp held 50 (fun l : List (Int × Int) => [FV.sl (l.map keyV)]) (fun l => l.length ≤ 140737488355328 ∧ ∀ x ∈ l, (fun _ => True) x) :=
  opens_slice Tryz.underlying50 (e := 138) (s := 2) (by kernel_rfl) (by decide) (Nat.le_of_ble_eq_true (by kernel_rfl)) (fun _ => rfl) opens_pt
theorem opens_env : Opens enc Tryz.prog w base sp held 52 (fun x : EnvV => (envV x).cells) (fun x => x.points.length ≤ 140737488355328) := by
  intro n cs x hx hw
  have hl := opens_size Tryz.underlying52 hx (k := 8) (by kernel_rfl)
  obtain ⟨a0, b0, r0⟩ := opens_field Tryz.underlying52 hx hw 0 rfl (k := 1) (o := 0) (tt := 4) rfl rfl (by kernel_rfl) opens_b
  obtain ⟨a1, b1, r1⟩ := opens_field Tryz.underlying52 hx hw 1 rfl (k := 1) (o := 1) (tt := 50) rfl rfl (by kernel_rfl) opens_pts
  obtain ⟨a2, b2, r2⟩ := opens_field Tryz.underlying52 hx hw 2 rfl (k := 1) (o := 2) (tt := 4) rfl rfl (by kernel_rfl) opens_b
  obtain ⟨a3, b3, r3⟩ := opens_field Tryz.underlying52 hx hw 3 rfl (k := 1) (o := 3) (tt := 3) rfl rfl (by kernel_rfl) opens_i
  obtain ⟨a4, b4, r4⟩ := opens_field Tryz.underlying52 hx hw 4 rfl (k := 1) (o := 4) (tt := 3) rfl rfl (by kernel_rfl) opens_i
  obtain ⟨a5, b5, r5⟩ := opens_field Tryz.underlying52 hx hw 5 rfl (k := 1) (o := 5) (tt := 4) rfl rfl (by kernel_rfl) opens_b
  obtain ⟨a6, b6, r6⟩ := opens_field Tryz.underlying52 hx hw 6 rfl (k := 1) (o := 6) (tt := 3) rfl rfl (by kernel_rfl) opens_i
  obtain ⟨a7, b7, r7⟩ := opens_field Tryz.underlying52 hx hw 7 rfl (k := 1) (o := 7) (tt := 3) rfl rfl (by kernel_rfl) opens_i
  exact ⟨⟨a0, a1, a2, a3, a4, a5, a6, a7⟩, b1.1, RelC.whole (r0.piece (r1.piece (r2.piece (r3.piece (r4.piece (r5.piece (r6.piece (r7.piece (RelC.done hl)))))))))⟩
def InsHeld (x : InsV) : Prop := x.name.length ≤ 140737488355328 ∧ x.keys.length ≤ 140737488355328 ∧ x.volume.points.length ≤ 140737488355328 ∧ x.panning.points.length ≤ 140737488355328 ∧ x.pitch.points.length ≤ 140737488355328
theorem opens_ins : Opens enc Tryz.prog w base sp held 54 (fun x : InsV => (insV x).cells) (InsHeld) := by
  intro n cs x hx hw
  have hl := opens_size Tryz.underlying54 hx (k := 33) (by kernel_rfl)
  obtain ⟨a0, b0, r0⟩ := opens_field Tryz.underlying54 hx hw 0 rfl (k := 1) (o := 0) (tt := 9) rfl rfl (by kernel_rfl) opens_s
  obtain ⟨a1, b1, r1⟩ := opens_field Tryz.underlying54 hx hw 1 rfl (k := 1) (o := 1) (tt := 49) rfl rfl (by kernel_rfl) opens_keys
  obtain ⟨a2, b2, r2⟩ := opens_field Tryz.underlying54 hx hw 2 rfl (k := 8) (o := 2) (tt := 52) rfl rfl (by kernel_rfl) opens_env
  obtain ⟨a3, b3, r3⟩ := opens_field Tryz.underlying54 hx hw 3 rfl (k := 8) (o := 10) (tt := 52) rfl rfl (by kernel_rfl) opens_env
  obtain ⟨a4, b4, r4⟩ := opens_field Tryz.underlying54 hx hw 4 rfl (k := 8) (o := 18) (tt := 52) rfl rfl (by kernel_rfl) opens_env
  obtain ⟨a5, b5, r5⟩ := opens_field Tryz.underlying54 hx hw 5 rfl (k := 1) (o := 26) (tt := 3) rfl rfl (by kernel_rfl) opens_i
  obtain ⟨a6, b6, r6⟩ := opens_field Tryz.underlying54 hx hw 6 rfl (k := 1) (o := 27) (tt := 3) rfl rfl (by kernel_rfl) opens_i
  obtain ⟨a7, b7, r7⟩ := opens_field Tryz.underlying54 hx hw 7 rfl (k := 1) (o := 28) (tt := 3) rfl rfl (by kernel_rfl) opens_i
  obtain ⟨a8, b8, r8⟩ := opens_field Tryz.underlying54 hx hw 8 rfl (k := 1) (o := 29) (tt := 3) rfl rfl (by kernel_rfl) opens_i
  obtain ⟨a9, b9, r9⟩ := opens_field Tryz.underlying54 hx hw 9 rfl (k := 1) (o := 30) (tt := 3) rfl rfl (by kernel_rfl) opens_i
  obtain ⟨a10, b10, r10⟩ := opens_field Tryz.underlying54 hx hw 10 rfl (k := 1) (o := 31) (tt := 3) rfl rfl (by kernel_rfl) opens_i
  obtain ⟨a11, b11, r11⟩ := opens_field Tryz.underlying54 hx hw 11 rfl (k := 1) (o := 32) (tt := 3) rfl rfl (by kernel_rfl) opens_i
  exact ⟨⟨a0, a1, a2, a3, a4, a5, a6, a7, a8, a9, a10, a11⟩, ⟨b0, b1.1, b2, b3, b4⟩, RelC.whole (r0.piece (r1.piece (r2.piece (r3.piece (r4.piece (r5.piece (r6.piece (r7.piece (r8.piece (r9.piece (r10.piece (r11.piece (RelC.done hl)))))))))))))⟩
theorem opens_inss : Opens enc Tryz.prog w base sp held 25 (fun l : List InsV => [FV.sl (l.map insV)]) (fun l => l.length ≤ 140737488355328 ∧ ∀ x ∈ l, (InsHeld) x) :=
  opens_slice Tryz.underlying25 (e := 54) (s := 33) (by kernel_rfl) (by decide) (Nat.le_of_ble_eq_true (by kernel_rfl)) (fun _ => rfl) opens_ins
theorem opens_song : Opens enc Tryz.prog w base sp held 27 (fun x : SongV => songL x) (fun x => Sized x ∧ Rows x) := by
  intro n cs x hx hw
  have hl := opens_size Tryz.underlying27 hx (k := 13) (by kernel_rfl)
  obtain ⟨a0, b0, r0⟩ := opens_field Tryz.underlying27 hx hw 0 rfl (k := 1) (o := 0) (tt := 9) rfl rfl (by kernel_rfl) opens_s
  obtain ⟨a1, b1, r1⟩ := opens_field Tryz.underlying27 hx hw 1 rfl (k := 1) (o := 1) (tt := 3) rfl rfl (by kernel_rfl) opens_i
  obtain ⟨a2, b2, r2⟩ := opens_field Tryz.underlying27 hx hw 2 rfl (k := 1) (o := 2) (tt := 3) rfl rfl (by kernel_rfl) opens_i
  obtain ⟨a3, b3, r3⟩ := opens_field Tryz.underlying27 hx hw 3 rfl (k := 1) (o := 3) (tt := 22) rfl rfl (by kernel_rfl) opens_ints
  obtain ⟨a4, b4, r4⟩ := opens_field Tryz.underlying27 hx hw 4 rfl (k := 1) (o := 4) (tt := 3) rfl rfl (by kernel_rfl) opens_i
  obtain ⟨a5, b5, r5⟩ := opens_field Tryz.underlying27 hx hw 5 rfl (k := 1) (o := 5) (tt := 3) rfl rfl (by kernel_rfl) opens_i
  obtain ⟨a6, b6, r6⟩ := opens_field Tryz.underlying27 hx hw 6 rfl (k := 1) (o := 6) (tt := 3) rfl rfl (by kernel_rfl) opens_i
  obtain ⟨a7, b7, r7⟩ := opens_field Tryz.underlying27 hx hw 7 rfl (k := 1) (o := 7) (tt := 3) rfl rfl (by kernel_rfl) opens_i
  obtain ⟨a8, b8, r8⟩ := opens_field Tryz.underlying27 hx hw 8 rfl (k := 1) (o := 8) (tt := 4) rfl rfl (by kernel_rfl) opens_b
  obtain ⟨a9, b9, r9⟩ := opens_field Tryz.underlying27 hx hw 9 rfl (k := 1) (o := 9) (tt := 22) rfl rfl (by kernel_rfl) opens_ints
  obtain ⟨a10, b10, r10⟩ := opens_field Tryz.underlying27 hx hw 10 rfl (k := 1) (o := 10) (tt := 23) rfl rfl (by kernel_rfl) opens_pats
  obtain ⟨a11, b11, r11⟩ := opens_field Tryz.underlying27 hx hw 11 rfl (k := 1) (o := 11) (tt := 24) rfl rfl (by kernel_rfl) opens_smps
  obtain ⟨a12, b12, r12⟩ := opens_field Tryz.underlying27 hx hw 12 rfl (k := 1) (o := 12) (tt := 25) rfl rfl (by kernel_rfl) opens_inss
  exact ⟨⟨a0, a1, a2, a3, a4, a5, a6, a7, a8, a9, a10, a11, a12⟩, ⟨⟨b0, b3.1, b9.1, b10.1, b10.2, b11.1, fun i hi => ⟨(b12.2 i hi).1, (b12.2 i hi).2.1⟩⟩, ⟨b3.1, b9.1, b10.1, b10.2, b11.1, b11.2, b12.1, fun i hi => (b12.2 i hi).2⟩⟩, RelC.whole (r0.piece (r1.piece (r2.piece (r3.piece (r4.piece (r5.piece (r6.piece (r7.piece (r8.piece (r9.piece (r10.piece (r11.piece (r12.piece (RelC.done hl))))))))))))))⟩
end
end Go.Proofs.YtgjnimemofmncaaGreatDoor

namespace Go.Proofs.YtgjnimemofmncaaGreatDoor
open Go.Abs Go.Tx
set_option maxHeartbeats 4000000
set_option maxRecDepth 20000
def LightIs (S : St) (x : CX) (T : St) : Prop := T = S ∧ ∃ b, x = .ret (boolV b)
theorem wc4 (s : SongV) (h : Rows s) (S : St) : WC Tryz.prog 4 [.c (songV s)] (LightIs S) S := by
  have hszp : allSize 2 (s.patterns.map patV) = true := allSize_map (s := 2) patV (fun _ => rfl) s.patterns
  have hszs : allSize 13 (s.samples.map smpV) = true := allSize_map (s := 13) smpV (fun _ => rfl) s.samples
  have hszi : allSize 33 (s.insts.map insV) = true := allSize_map (s := 33) insV (fun _ => rfl) s.insts
  refine wc_fn (fn := Tryz.f4) (N := 88) (rs := [.tmp 2]) (by rfl) (by kernel_rfl) (by rfl) (by rfl) (by rfl) (by rfl) fun hS => ?_
  simp only [List.length_map, go_sem, ne_up1, ne_up2, ne_up3, Nat.reduceAdd, Nat.reduceEqDiff, Nat.reduceLT]
  refine wloop_meas (fun m' e S' => FR S [(S.next, .blk (songA s) 0 27)] S' ∧ ∃ (i : Nat) (n : Int), m' = s.patterns.length - i ∧ i ≤ s.patterns.length ∧ e.get 1 = .ref S.next 0 ∧ e.get 3 = i64 n ∧ e.get 22 = .c (.sl (s.patterns.map patV)) ∧ e.get 23 = i64 s.patterns.length ∧ e.get 24 = i64 i) ?_ s.patterns.length _ _ ?_
  rotate_left
  · exact ⟨(FR.start hS.1).new _, 0, _, rfl, Nat.zero_le _, by simp only [go_sem, ne_up1, ne_up2, Nat.reduceEqDiff], (by simp only [go_sem, Nat.reduceEqDiff]; rfl), by simp only [go_sem, ne_up1, ne_up2], by simp only [go_sem, ne_up1], by simp only [go_sem, Int.cast_ofNat_Int]⟩
  rintro m' e S' ⟨hF, i, n, rfl, hi, g1, g3, gs, gc, gi⟩
  rcases Nat.lt_or_ge i s.patterns.length with hlt | hge
  · have q1 : ((i : Int) < (s.patterns.length : Int)) := by omega
    have q2 : ¬ ((i : Int) < 0) := by omega
    have q3 : (s.patterns.map patV)[i]? = some (patV s.patterns[i]) := by simp [hlt]
    have q5 := step_big i (by have := h.patterns; omega)
    generalize s.patterns[i] = x at *
    simp only [g1, g3, gs, gc, gi, q1, q2, q3, q5, hlt, hszp, List.length_map, Int.toNat_natCast, Option.map_some, go_sem, put_new, ne_up1, ne_up2, ne_up3, ne_up4, ne_up5, ne_up6, Nat.reduceAdd, Nat.reduceEqDiff, Nat.reduceLT, Nat.reduceLeDiff]
    exact ⟨s.patterns.length - (i + 1), by omega, hF.tmp _, i + 1, _, rfl, by omega, rfl, rfl⟩
  have q1 : ¬ ((i : Int) < (s.patterns.length : Int)) := by omega
  have hg := hF.get1
  simp only [g1, gc, gi, q1, hg, List.length_map, go_sem, Nat.reduceAdd, Nat.reduceEqDiff, Nat.reduceLT]
  clear q1 hge gi gc gs hi i
  refine wloop_meas (fun m' e S' => FR S [(S.next, .blk (songA s) 0 27)] S' ∧ ∃ (i : Nat) (n : Int), m' = s.samples.length - i ∧ i ≤ s.samples.length ∧ e.get 1 = .ref S.next 0 ∧ e.get 3 = i64 n ∧ e.get 36 = .c (.sl (s.samples.map smpV)) ∧ e.get 37 = i64 s.samples.length ∧ e.get 38 = i64 i) ?_ s.samples.length _ _ ?_
  rotate_left
  · exact ⟨hF, 0, _, rfl, Nat.zero_le _, by simp only [g1, go_sem, Nat.reduceEqDiff], (by simp only [g3, go_sem, Nat.reduceEqDiff]; rfl), by simp only [go_sem, ne_up1, ne_up2], by simp only [go_sem, ne_up1], by simp only [go_sem, Int.cast_ofNat_Int]⟩
  rintro m' e S' ⟨hF, i, n, rfl, hi, g1, g3, gs, gc, gi⟩
  rcases Nat.lt_or_ge i s.samples.length with hlt | hge
  · have q1 : ((i : Int) < (s.samples.length : Int)) := by omega
    have q2 : ¬ ((i : Int) < 0) := by omega
    have q3 : (s.samples.map smpV)[i]? = some (smpV s.samples[i]) := by simp [hlt]
    have q5 := step_big i (by have := h.samples; omega)
    generalize s.samples[i] = x at *
    simp only [g1, g3, gs, gc, gi, q1, q2, q3, q5, hlt, hszs, List.length_map, Int.toNat_natCast, Option.map_some, go_sem, put_new, ne_up1, ne_up2, ne_up3, ne_up4, ne_up5, ne_up6, Nat.reduceAdd, Nat.reduceEqDiff, Nat.reduceLT, Nat.reduceLeDiff]
    exact ⟨s.samples.length - (i + 1), by omega, hF.tmp _, i + 1, _, rfl, by omega, rfl, rfl⟩
  have q1 : ¬ ((i : Int) < (s.samples.length : Int)) := by omega
  have hg := hF.get1
  simp only [g1, gc, gi, q1, hg, List.length_map, go_sem, Nat.reduceAdd, Nat.reduceEqDiff, Nat.reduceLT]
  clear q1 hge gi gc gs hi i
  refine wloop_meas (fun m' e S' => FR S [(S.next, .blk (songA s) 0 27)] S' ∧ ∃ (i : Nat) (n : Int), m' = s.insts.length - i ∧ i ≤ s.insts.length ∧ e.get 1 = .ref S.next 0 ∧ e.get 3 = i64 n ∧ e.get 54 = .c (.sl (s.insts.map insV)) ∧ e.get 55 = i64 s.insts.length ∧ e.get 56 = i64 i) ?_ s.insts.length _ _ ?_
  rotate_left
  · exact ⟨hF, 0, _, rfl, Nat.zero_le _, by simp only [g1, go_sem, Nat.reduceEqDiff], (by simp only [g3, go_sem, Nat.reduceEqDiff]; rfl), by simp only [go_sem, ne_up1, ne_up2], by simp only [go_sem, ne_up1], by simp only [go_sem, Int.cast_ofNat_Int]⟩
  rintro m' e S' ⟨hF, i, n, rfl, hi, g1, g3, gs, gc, gi⟩
  rcases Nat.lt_or_ge i s.insts.length with hlt | hge
  · have q1 : ((i : Int) < (s.insts.length : Int)) := by omega
    have q2 : ¬ ((i : Int) < 0) := by omega
    have q3 : (s.insts.map insV)[i]? = some (insV s.insts[i]) := by simp [hlt]
    have q5 := step_big i (by have := h.insts; omega)
    generalize s.insts[i] = x at *
    simp only [g1, g3, gs, gc, gi, q1, q2, q3, q5, hlt, hszi, List.length_map, Int.toNat_natCast, Option.map_some, go_sem, put_new, ne_up1, ne_up2, ne_up3, ne_up4, ne_up5, ne_up6, Nat.reduceAdd, Nat.reduceEqDiff, Nat.reduceLT, Nat.reduceLeDiff]
    exact ⟨s.insts.length - (i + 1), by omega, hF.tmp _, i + 1, _, rfl, by omega, rfl, rfl⟩
  have q1 : ¬ ((i : Int) < (s.insts.length : Int)) := by omega
  have hg := hF.get1
  simp only [g3, gc, gi, q1, go_sem, Nat.reduceEqDiff, Nat.reduceLT]
  clear q1 hge gi gc gs hi i
  exact ends_fwd (hF.fwd hS) rfl ⟨rfl, _, rfl⟩
end Go.Proofs.YtgjnimemofmncaaGreatDoor

namespace Go.Proofs.YtgjnimemofmncaaGreatDoor
open Go.Abs Go.Tx
set_option maxHeartbeats 1000000
set_option maxRecDepth 20000
theorem ext155 : Ext0 Tryz.prog 155 (Extern.Atomic.loadT (.int .u32)) := ⟨Tryz.f155, Tryz.func155, by kernel_rfl, by kernel_rfl, by kernel_rfl, by kernel_rfl⟩
theorem ext171 : Ext0 Tryz.prog 171 Extern.Atomic.storeT := ⟨Tryz.f171, Tryz.func171, by kernel_rfl, by kernel_rfl, by kernel_rfl, by kernel_rfl⟩
theorem ext178 : Ext0 Tryz.prog 178 (Extern.Atomic.casT (.int .i32)) := ⟨Tryz.f178, Tryz.func178, by kernel_rfl, by kernel_rfl, by kernel_rfl, by kernel_rfl⟩
theorem ext183 : Ext0 Tryz.prog 183 (Extern.Atomic.update (Op.intArith .add) .i32 true) := ⟨Tryz.f183, Tryz.func183, by kernel_rfl, by kernel_rfl, by kernel_rfl, by kernel_rfl⟩
theorem ext177 : Ext0 Tryz.prog 177 (fun _ => do mark .disable; pure Extern.Race.none_) := ⟨Tryz.f177, Tryz.func177, by kernel_rfl, by kernel_rfl, by kernel_rfl, by kernel_rfl⟩
theorem ext179 : Ext0 Tryz.prog 179 (fun _ => do mark .enable; pure Extern.Race.none_) := ⟨Tryz.f179, Tryz.func179, by kernel_rfl, by kernel_rfl, by kernel_rfl, by kernel_rfl⟩
theorem ext180 : Ext0 Tryz.prog 180 (Extern.Race.marked .acquire) := ⟨Tryz.f180, Tryz.func180, by kernel_rfl, by kernel_rfl, by kernel_rfl, by kernel_rfl⟩
theorem ext182 : Ext0 Tryz.prog 182 (Extern.Race.marked .releaseMerge) := ⟨Tryz.f182, Tryz.func182, by kernel_rfl, by kernel_rfl, by kernel_rfl, by kernel_rfl⟩
theorem wc177 (S : St) : WC Tryz.prog 177 [] (Is (.tup []) S) S := wc_mark0 (m := .disable) ext177 S
theorem wc179 (S : St) : WC Tryz.prog 179 [] (Is (.tup []) S) S := wc_mark0 (m := .enable) ext179 S
theorem wc180 (b off : Nat) (S : St) : WC Tryz.prog 180 [.ref b off] (Is (.tup []) S) S := wc_marked (m := .acquire) ext180 b off S
theorem wc182 (b off : Nat) (S : St) : WC Tryz.prog 182 [.ref b off] (Is (.tup []) S) S := wc_marked (m := .releaseMerge) ext182 b off S
abbrev onC (d st : Int) (r ow : AV) : List AV := [.c (.int .u32 d), .c (.int .i32 st), .c (.int .u32 0), r, ow]
theorem wc172 (S : St) : WC Tryz.prog 172 [.c (.bool true)] (Is (.c (.int .u32 1)) S) S := by
  refine wc_fn (fn := Tryz.f172) (N := 4) (rs := [.tmp 2]) (by rfl) (by kernel_rfl) (by rfl) (by rfl) (by rfl) (by rfl) fun hS => ?_
  simp only [go_sem, ne_up2, Nat.reduceAdd, Nat.reduceLT]
  exact ends_now ⟨rfl, rfl⟩
section
variable {S : St} {o : Nat} {d st : Int} {r ow : AV} (h : S.get o = some (.blk (onC d st r ow) 0 175))
include h
theorem wc155 : WC Tryz.prog 155 [.ref o 0] (Is (.c (.int .u32 d)) S) S := wc_loadInt ext155 h rfl
theorem wc171 (y : Int) : WC Tryz.prog 171 [.ref o 0, .c (.int .u32 y)] (Is (.tup []) (S.put o (.blk (onC y st r ow) 0 175))) S := wc_storeInt ext171 h rfl (Nat.zero_le _)
theorem wc178 (y : Int) : WC Tryz.prog 178 [.ref o 1, .c (.int .i32 st), .c (.int .i32 y)] (Is (.c (.bool true)) (S.put o (.blk (onC d y r ow) 0 175))) S := wc_casInt ext178 h rfl (Nat.zero_le _)
theorem wc183 (y : Int) : WC Tryz.prog 183 [.ref o 1, .c (.int .i32 y)] (Is (.c (.int .i32 (IntKind.i32.wrap (st + y)))) (S.put o (.blk (onC d (IntKind.i32.wrap (st + y)) r ow) 0 175))) S := wc_addInt ext183 h rfl (Nat.zero_le _)
theorem wc138 : WC Tryz.prog 138 [.ref o 0] (Is (.c (.bool (d != 0))) S) S := by
  refine wc_fn (fn := Tryz.f138) (N := 8) (rs := [.tmp 2]) (by rfl) (by kernel_rfl) (by rfl) (by rfl) (by rfl) (by rfl) fun hS => ?_
  simp only [go_sem, ne_up2, Nat.reduceAdd, Nat.reduceLT]
  refine wc_is (wc155 h) ?_
  simp only [go_sem, Nat.reduceLT]
  exact ends_now ⟨rfl, rfl⟩
theorem wc169 (hst : st = 0) : WC Tryz.prog 169 [.ref o 1] (Is (.tup []) (S.put o (.blk (onC d 1 r ow) 0 175))) S := by
  subst hst
  refine wc_fn (fn := Tryz.f169) (N := 13) (rs := []) (by rfl) (by kernel_rfl) (by rfl) (by rfl) (by rfl) (by rfl) fun hS => ?_
  simp only [go_sem, Nat.reduceAdd, Nat.reduceLT]
  refine wc_is (wc177 _) ?_
  simp only [go_sem, ne_up2, Nat.reduceAdd, Nat.reduceLT]
  refine wc_is (wc178 h 1) ?_
  simp only [go_sem, Nat.reduceLT]
  refine wc_is (wc179 _) ?_
  simp only [h, go_sem, ne_up2, ne_up3, ne_up4, ne_up5, ne_up6, Nat.reduceAdd, Nat.reduceEqDiff, Nat.reduceLT]
  refine wc_is (wc180 _ _ _) ?_
  simp only [go_sem]
  exact ends_now ⟨rfl, rfl⟩
theorem wc170 (hst : st = 1) : WC Tryz.prog 170 [.ref o 1] (Is (.tup []) (S.put o (.blk (onC d 0 r ow) 0 175))) S := by
  subst hst
  refine wc_fn (fn := Tryz.f170) (N := 21) (rs := []) (by rfl) (by kernel_rfl) (by rfl) (by rfl) (by rfl) (by rfl) fun hS => ?_
  simp only [h, go_sem, ne_up3, ne_up4, ne_up5, ne_up6, Nat.reduceAdd, Nat.reduceLT, Int.reduceNeg]
  refine wc_is (wc182 _ _ _) ?_
  simp only [go_sem, Nat.reduceLT, Int.reduceNeg]
  refine wc_is (wc177 _) ?_
  simp only [go_sem, ne_up3, ne_up4, ne_up5, ne_up6, Nat.reduceAdd, Nat.reduceEqDiff, Nat.reduceLT, Int.reduceNeg]
  refine wc_is (wc183 h (-1)) ?_
  have hw : IntKind.i32.wrap (1 + -1) = 0 := by rfl
  rw [hw]
  have e0 : ((0 : Int) != 0) = false := rfl
  simp only [e0, go_sem, Nat.reduceLT, Int.reduceNeg]
  refine wc_is (wc179 _) ?_
  simp only [go_sem]
  exact ends_now ⟨rfl, rfl⟩
end
end Go.Proofs.YtgjnimemofmncaaGreatDoor

namespace Go.Proofs.YtgjnimemofmncaaGreatDoor
open Go.Abs Go.Tx
set_option maxHeartbeats 1000000
set_option maxRecDepth 20000
theorem run_ofY {f : FuncId} {fn : Func} {c : Code} (hf : Tryz.prog.funcs[f]? = some fn) (hn : (fn.name == "runtime.NumGoroutine") = false) (hb : fn.body = some c) : ∀ vals w, Sem.run Tryz.prog (callFunc f vals) w = .ok (.enter f vals) w := by
  intro vals w
  have hn' : ¬ fn.name = "runtime.NumGoroutine" := by simpa using hn
  simp [callFunc, program, hf, hn', hb, Sem.run]
theorem run157 : ∀ vals w, Sem.run Tryz.prog (callFunc 157 vals) w = .ok (.enter 157 vals) w := run_ofY (fn := Tryz.f157) (by rfl) (by kernel_rfl) (by rfl)
theorem run158 : ∀ vals w, Sem.run Tryz.prog (callFunc 158 vals) w = .ok (.enter 158 vals) w := run_ofY (fn := Tryz.f158) (by rfl) (by kernel_rfl) (by rfl)
section
variable {S : St} {o : Nat} {d : Int} {r ow : AV}
theorem wd157 {R : CX → DM → St → Prop} (h : S.get o = some (.blk (onC d 1 r ow) 0 175)) (hR : R (.ret (.tup [])) .ret (S.put o (.blk (onC d 0 r ow) 0 175))) : WDc Tryz.prog 157 [.ref o 1] R .ret S := by
  refine wdc_of_wf (fn := Tryz.f157) (N := 6) (by rfl) (by rfl) (by rfl) (by rfl) (by rfl) fun hS => wcode_sound ?_
  simp only [go_sem, Nat.reduceAdd, Nat.reduceLT]
  refine wc_is (wc170 h rfl) ?_
  simp only [go_sem]
  exact hR
theorem wd158 {R : CX → DM → St → Prop} {st : Int} (h : S.get o = some (.blk (onC d st r ow) 0 175)) (hR : R (.ret (.tup [])) .ret (S.put o (.blk (onC 1 st r ow) 0 175))) : WDc Tryz.prog 158 [.ref o 0, .c (.bool true)] R .ret S := by
  refine wdc_of_wf (fn := Tryz.f158) (N := 10) (by rfl) (by rfl) (by rfl) (by rfl) (by rfl) fun hS => wcode_sound ?_
  simp only [go_sem, Nat.reduceAdd]
  refine wdraw_plan ch158x0 pp158x0 (by kernel_rfl) (by kernel_rfl) (by kernel_rfl) ?_
  simp only [go_sem, ne_dn1, ne_up3, ne_up4, ne_up5, Nat.reduceAdd, Nat.reduceLT]
  refine ⟨_, wc172 _, ?_⟩
  simp only [go_sem, ne_up1, ne_up2, Nat.reduceLT]
  refine wc_is (wc171 h 1) ?_
  simp only [go_sem]
  exact hR
theorem wc156 (h : S.get o = some (.blk (onC d 0 r ow) 0 175)) : WC Tryz.prog 156 [.ref o 1] (Is (.tup []) (S.put o (.blk (onC d 1 r ow) 0 175))) S := by
  refine wc_fn (fn := Tryz.f156) (N := 6) (rs := []) (by rfl) (by kernel_rfl) (by rfl) (by rfl) (by rfl) (by rfl) fun hS => ?_
  simp only [go_sem, Nat.reduceAdd, Nat.reduceLT]
  refine wc_is (wc169 h rfl) ?_
  simp only [go_sem]
  exact ends_now ⟨rfl, rfl⟩
def OnceIs (o : Nat) (Q : AV → AV → St → Prop) (x : CX) (T : St) : Prop := x = .ret (.tup []) ∧ ∃ r ow, T.get o = some (.blk (onC 0 1 r ow) 0 175) ∧ Q r ow T
def DoneIs (o : Nat) (Q : AV → AV → St → Prop) (x : CX) (T : St) : Prop := x = .ret (.tup []) ∧ ∃ r ow T0, Q r ow T0 ∧ T = T0.put o (.blk (onC 1 0 r ow) 0 175)
theorem wc139 {Q : AV → AV → St → Prop} (h : S.get o = some (.blk (onC 0 0 r ow) 0 175)) (h1 : WC Tryz.prog 106 [.ref o 0] (OnceIs o Q) (S.put o (.blk (onC 0 1 r ow) 0 175))) :
    WC Tryz.prog 139 [.ref o 0, .clo 106 [.ref o 0] []] (DoneIs o Q) S := by
  refine wc_fn_defers (fn := Tryz.f139) (N := 21) (rs := []) (by rfl) (by kernel_rfl) (by rfl) (by rfl) (by rfl) (by rfl) fun hS => ?_
  refine we_seq (we_of_w (wcode_sound ?_))
  simp only [go_sem, Nat.reduceAdd, Nat.reduceLT]
  refine wc_is (wc156 h) ?_
  simp only [thenE, go_sem]
  refine we_seq (we_region ?_)
  refine ⟨by simp [dstOk], by rfl, .inl ⟨_, _, by rfl, ?_⟩⟩
  refine ⟨by simp [dstOk], by rfl, .inl ⟨_, _, by rfl, ?_⟩⟩
  refine ⟨by simp [dstOk], by rfl, .inl ⟨_, _, by rfl, ?_⟩⟩
  refine ⟨by simp [dstOk], by rfl, .inr ⟨_, by rfl, ?_⟩⟩
  have hg1 : (S.put o (.blk (onC 0 1 r ow) 0 175)).get o = some (.blk (onC 0 1 r ow) 0 175) := by rw [St.get_put]; exact if_pos rfl
  have f0 : ((0 : Int) != 0) = false := rfl
  refine (show WE Tryz.prog 21 _ _ _ _ _ from ?_)
  refine we_seq (we_of_w (wcode_sound ?_))
  simp only [go_sem, ne_up4, ne_up5, ne_up6, Nat.reduceAdd, Nat.reduceEqDiff, Nat.reduceLT]
  refine wc_is (wc138 hg1) ?_
  simp only [thenE, f0, Bool.not_false, go_sem, Nat.reduceLT]
  refine we_cond (t := true) (by rfl) (fun _ => ?_) (fun h => by cases h)
  refine we_seq (we_region ?_)
  refine ⟨by simp [dstOk], by rfl, .inl ⟨_, _, by rfl, ?_⟩⟩
  refine ⟨by simp [dstOk], by rfl, .inl ⟨_, _, by rfl, ?_⟩⟩
  refine ⟨by simp [dstOk], by rfl, .inl ⟨_, _, by rfl, ?_⟩⟩
  refine ⟨by simp [dstOk], by rfl, .inr ⟨_, by rfl, ?_⟩⟩
  refine (show WE Tryz.prog 21 _ _ _ _ _ from ?_)
  refine we_of_w (wcode_sound ?_)
  simp only [go_sem, ne_dn1, ne_up3, ne_up4, ne_up5, ne_up6, Nat.reduceEqDiff, Nat.reduceLT]
  refine h1.mono ?_
  rintro x T ⟨rfl, r2, ow2, hT, hQ⟩
  simp only [go_sem]
  refine ⟨run158, ?_⟩
  refine wd158 (d := 0) (st := 1) hT ⟨rfl, rfl, run157, ?_⟩
  refine wd157 (d := 1) (r := r2) (ow := ow2) (by rw [St.get_put]; exact if_pos rfl) ⟨rfl, rfl, ?_⟩
  exact ends_now ⟨rfl, r2, ow2, T, hQ, put_put _ _ _ _⟩
theorem wc105 {Q : AV → AV → St → Prop} (h : S.get o = some (.blk (onC 0 0 r ow) 0 175)) (h1 : WC Tryz.prog 106 [.ref o 0] (OnceIs o Q) (S.put o (.blk (onC 0 1 r ow) 0 175))) :
    WC Tryz.prog 105 [.ref o 0, .clo 106 [.ref o 0] []] (DoneIs o Q) S := by
  have f0 : ((0 : Int) != 0) = false := rfl
  refine wc_fn (fn := Tryz.f105) (N := 12) (rs := []) (by rfl) (by kernel_rfl) (by rfl) (by rfl) (by rfl) (by rfl) fun hS => ?_
  simp only [go_sem, Nat.reduceAdd, Nat.reduceLT]
  refine wc_is (wc138 h) ?_
  simp only [f0, Bool.not_false, go_sem, ne_up1, ne_dn1, ne_up3, ne_up4, ne_up5, ne_up6, Nat.reduceEqDiff, Nat.reduceLT]
  refine (wc139 h h1).mono ?_
  rintro x T ⟨rfl, hx⟩
  simp only [go_sem]
  exact ends_now ⟨rfl, hx⟩
end
end Go.Proofs.YtgjnimemofmncaaGreatDoor

namespace Go.Proofs.YtgjnimemofmncaaGreatDoor
open Go.Abs Go.Tx
set_option maxHeartbeats 1000000
set_option maxRecDepth 20000
abbrev wdC : List AV := [.c (.str [92]), .c (.str [92, 92]), .c (.str [34]), .c (.str [92, 34])]
theorem wc66 {S : St} {wb : Nat} (h : S.get wb = some (.blk wdC 0 9)) :
    WC Tryz.prog 66 [.sl wb 0 4 1 true] (fun x T => x = .ret (.ref (S.next + 1) 0) ∧ T = (S.new (.blk wdC 0 9)).new (.blk (onC 0 0 (.c .nili) (.sl S.next 0 4 1 false)) 0 175)) S := by
  refine wc_fn (fn := Tryz.f66) (N := 12) (rs := [.tmp 2]) (by rfl) (by kernel_rfl) (by rfl) (by rfl) (by rfl) (by rfl) fun hS => ?_
  have e0 : ((0 : Int) == 1) = false := rfl
  simp only [h, t9b, t9s, t9z, size_one, e0, List.length_cons, List.length_nil, List.drop_zero, List.take_succ_cons, List.take_zero, go_sem, maxLenA, ne_up1, ne_up2, ne_up3, ne_up4, ne_up5, ne_up6, Int.cast_ofNat_Int, Nat.reduceAdd, Nat.reduceMul, Nat.reduceEqDiff, Nat.reduceLT, Nat.reduceLeDiff, Int.reduceEq, Int.reduceTMod]
  exact ends_now ⟨rfl, rfl⟩
def rtabL : List FV := List.replicate 257 .nils
theorem hz224 : zeroT Tryz.prog 224 = some (.agg rtabL) := by kernel_rfl
def rtab (a b x : AV) : List AV := ((List.range 256).map fun i => if i = 34 then a else if i = 92 then b else .c .nils) ++ [x]
theorem rtab_len (a b x : AV) : (rtab a b x).length = 257 := by simp [rtab]
theorem rtab_get (a b x : AV) {i : Nat} (hi : i < 256) : (rtab a b x)[i]? = some (if i = 34 then a else if i = 92 then b else .c .nils) := by
  unfold rtab
  rw [List.getElem?_append_left (by simp; exact hi)]
  simp [hi]
theorem rtab_last (a b x : AV) : (rtab a b x)[256]? = some x := by
  unfold rtab
  rw [List.getElem?_append_right (by simp)]
  simp
theorem rtab_34 (a b x v : AV) : List.take 34 (rtab a b x) ++ [v] ++ List.drop 35 (rtab a b x) = rtab v b x := by kernel_rfl
theorem rtab_92 (a b x v : AV) : List.take 92 (rtab a b x) ++ [v] ++ List.drop 93 (rtab a b x) = rtab a v x := by kernel_rfl
theorem rtab_256 (a b x v : AV) : List.take 256 (rtab a b x) ++ [v] ++ List.drop 257 (rtab a b x) = rtab a b v := by kernel_rfl
theorem rtabL_len : rtabL.length = 257 := by kernel_rfl
theorem rtabL_set (v : AV) : List.take 256 (rtabL.map AV.c) ++ [v] = rtab (.c .nils) (.c .nils) v := by kernel_rfl
theorem rtab_pure (b off n k : Nat) (f : Bool) : allPure (rtab (.c .nils) (.c .nils) (.sl b off n k f)) = none := by kernel_rfl
theorem rtabL_scalar : (rtabL.map AV.c).all AV.scalar = true := by kernel_rfl
theorem rtab_scalar (a b c : Nat) (f : Bool) (n : Nat) : (rtab (.c .nils) (.c .nils) (.sl a b c n f)).all AV.scalar = true := by kernel_rfl
theorem rtabL_drop : List.drop 257 (rtabL.map AV.c) = [] := List.drop_eq_nil_of_le (by rw [List.length_map, rtabL_len]; exact Nat.le_refl _)
abbrev tabO (n : Nat) : List (Nat × Ob) := [(n + 7, .blk (byteCells [92, 92]) 0 5), (n + 4, .blk (byteCells [92, 34]) 0 5),
  (n + 1, .blk (rtab (.sl (n + 4) 0 2 1 false) (.sl (n + 7) 0 2 1 false) (.sl n 0 2 1 false)) 0 224), (n, .blk [.c (.str [34]), .c (.str [92])] 0 9)]
theorem wc140 {S : St} {o wb : Nat} (h : S.get o = some (.blk (onC 0 1 (.c .nili) (.sl wb 0 4 1 false)) 0 175)) (hw : S.get wb = some (.blk wdC 0 9)) :
    WC Tryz.prog 140 [.ref o 0] (fun x T => x = .ret (.iface 225 (.ref (S.next + 1) 0)) ∧ FR S (tabO S.next) T) S := by
  refine wc_fn (fn := Tryz.f140) (N := 132) (rs := [.tmp 2]) (by rfl) (by kernel_rfl) (by rfl) (by rfl) (by rfl) (by rfl) fun hS => ?_
  have e0 : ((4 : Int) == 2) = false := rfl
  have e1 : ((1 : Int) != 1) = false := rfl
  have e2 : ((2 : Int) != 1) = true := rfl
  have g2 : decide ((2 : Int) ≥ 0) = true := rfl
  have g0 : decide ((0 : Int) ≥ 0) = true := rfl
  have gm : decide ((-2 : Int) ≥ 0) = false := rfl
  have u34 : (((34 : UInt8).toNat : Nat) : Int) = 34 := rfl
  have u92 : (((92 : UInt8).toNat : Nat) : Int) = 92 := rfl
  have hwl := hS.1 wb _ hw
  have n1 : (S.next = wb) = False := eq_false (by omega)
  have n2 : (S.next + 1 = wb) = False := eq_false (by omega)
  have n3 : (S.next + 1 + 1 = wb) = False := eq_false (by omega)
  have n4 : (S.next + 1 + 1 + 1 = wb) = False := eq_false (by omega)
  have n5 : (S.next + 1 + 1 + 1 + 1 = wb) = False := eq_false (by omega)
  have n6 : (S.next + 1 + 1 + 1 + 1 + 1 = wb) = False := eq_false (by omega)
  have n7 : (S.next + 1 + 1 + 1 + 1 + 1 + 1 = wb) = False := eq_false (by omega)
  simp only [h, e0, go_sem, ne_up1, ne_up2, ne_up3, ne_up4, ne_up5, Int.cast_ofNat_Int, Nat.reduceAdd, Nat.reduceLT]
  refine wloop_round ?_
  simp only [hw, e1, e2, List.length_cons, List.length_nil, List.getElem?_cons_zero, List.getElem?_cons_succ, Option.map_some, go_sem, ne_up1, ne_dn1, ne_up2, wrap_i64, Int.cast_ofNat_Int, Nat.reduceAdd, Nat.reduceMul, Nat.reduceEqDiff, Nat.reduceLT, Int.reduceLT, Int.reduceLE, Int.reduceToNat, Int.reduceNeg, Int.reduceAdd]
  refine wloop_round ?_
  simp only [hw, e1, e2, List.length_cons, List.length_nil, List.getElem?_cons_zero, List.getElem?_cons_succ, Option.map_some, go_sem, ne_up1, ne_dn1, ne_up2, wrap_i64, Int.cast_ofNat_Int, Nat.reduceAdd, Nat.reduceMul, Nat.reduceEqDiff, Nat.reduceLT, Int.reduceLT, Int.reduceLE, Int.reduceToNat, Int.reduceNeg, Int.reduceAdd]
  refine wloop_round ?_
  simp only [List.length_cons, List.length_nil, Option.map_some, t9b, t9s, hz224, rtabL_len, rtabL_set, rtab_pure, rtabL_scalar, rtab_len, rtab_scalar, rtabL_drop, List.append_nil, List.length_map, Nat.lt_succ_self, Nat.zero_lt_succ, go_sem, maxLenA, ne_up1, ne_dn1, ne_up2, wrap_i64, Int.cast_ofNat_Int, Nat.reduceAdd, Nat.reduceMul, Nat.reduceEqDiff, Nat.reduceLT, Nat.reduceLeDiff, Int.reduceLT, Int.reduceLE, Int.reduceToNat, Int.reduceNeg, Int.reduceEq, Int.reduceSub, Int.reduceTDiv]
  refine wloop_round ?_
  simp only [t9b, t9s, t9z, size_one, Option.map_some, Nat.mul_one, Nat.zero_add, Nat.zero_le, List.drop_zero, List.map_cons, List.map_nil, hw, n1, n2, g2, u34, if_true, if_false, List.length_cons, List.length_nil, List.getElem?_cons_zero, List.getElem?_cons_succ, Option.map_some, rtab_get, rtab_last, rtab_len, rtab_34, rtab_256, go_sem, maxLenA, ne_up1, ne_dn1, ne_up2, ne_dn2, ne_up3, ne_dn3, ne_up4, bytesOf, wrap_i64, Nat.reduceAdd, Nat.reduceSub, Nat.reduceMul, Nat.reduceEqDiff, Nat.reduceLT, Nat.reduceLeDiff, Int.reduceLT, Int.reduceLE, Int.reduceToNat, Int.reduceNeg, Int.reduceAdd, Int.reduceSub]
  refine wloop_round ?_
  simp only [t9b, t9s, t9z, size_one, Option.map_some, Nat.mul_one, Nat.zero_add, Nat.zero_le, List.drop_zero, List.map_cons, List.map_nil, hw, n1, n2, n3, n4, n5, g0, u92, if_true, if_false, List.length_cons, List.length_nil, List.getElem?_cons_zero, List.getElem?_cons_succ, Option.map_some, rtab_get, rtab_last, rtab_len, rtab_92, rtab_256, go_sem, maxLenA, ne_up1, ne_dn1, ne_up2, ne_dn2, ne_up3, ne_dn3, ne_up4, ne_dn4, ne_up5, ne_dn5, ne_up6, ne_dn6, bytesOf, wrap_i64, Nat.reduceAdd, Nat.reduceSub, Nat.reduceMul, Nat.reduceEqDiff, Nat.reduceLT, Nat.reduceLeDiff, Int.reduceLT, Int.reduceLE, Int.reduceToNat, Int.reduceNeg, Int.reduceAdd, Int.reduceSub]
  refine wloop_round ?_
  simp only [gm, go_sem, ne_up1, ne_up2, ne_up3, mkIface, Nat.reduceEqDiff, Nat.reduceLT, Int.reduceNeg]
  refine ends_now ⟨rfl, ?_⟩
  have h1 := (FR.start hS.1).new (.blk [.c (.str []), .c (.str [])] 0 9)
  have h2 := h1.new (.blk (rtabL.map .c) 0 224)
  have h3 := h2.put (.blk (rtab (.c .nils) (.c .nils) (.sl S.next 0 0 1 false)) 0 224)
  have h4 := (h3.tmp (.blk [.c (.int .u8 34)] 0 5)).tmp (.blk [.c (.str [UInt8.ofNat 34])] 0 9)
  have h5 := FR.put_mid (L1 := [_]) h4 (.blk [.c (.str [UInt8.ofNat 34]), .c (.str [])] 0 9)
  have h6 := FR.put_mid (L1 := []) h5 (.blk (rtab (.c .nils) (.c .nils) (.sl S.next 0 1 1 false)) 0 224)
  have h7 := FR.new h6 (.blk (byteCells [92, 34]) 0 5)
  have h8 := FR.put_mid (L1 := [_]) h7 (.blk (rtab (.sl (S.next + 4) 0 2 1 false) (.c .nils) (.sl S.next 0 1 1 false)) 0 224)
  have h9 := (FR.tmp h8 (.blk [.c (.int .u8 92)] 0 5)).tmp (.blk [.c (.str [UInt8.ofNat 92])] 0 9)
  have h10 := FR.put_mid (L1 := [_, _]) h9 (.blk [.c (.str [UInt8.ofNat 34]), .c (.str [UInt8.ofNat 92])] 0 9)
  have h11 := FR.put_mid (L1 := [_]) h10 (.blk (rtab (.sl (S.next + 4) 0 2 1 false) (.c .nils) (.sl S.next 0 2 1 false)) 0 224)
  have h12 := FR.new h11 (.blk (byteCells [92, 92]) 0 5)
  have h13 := FR.put_mid (L1 := [_, _]) h12 (.blk (rtab (.sl (S.next + 4) 0 2 1 false) (.sl (S.next + 7) 0 2 1 false) (.sl S.next 0 2 1 false)) 0 224)
  exact h13
def BuiltIs (o n : Nat) (S1 : St) (r ow : AV) (T : St) : Prop := r = .iface 225 (.ref (n + 1) 0) ∧ ow = .c .nils ∧ ∃ T0, FR S1 (tabO n) T0 ∧ T = T0.put o (.blk (onC 0 1 r ow) 0 175)
theorem wc106 {S : St} {o wb : Nat} (h : S.get o = some (.blk (onC 0 1 (.c .nili) (.sl wb 0 4 1 false)) 0 175)) (hw : S.get wb = some (.blk wdC 0 9)) :
    WC Tryz.prog 106 [.ref o 0] (OnceIs o (BuiltIs o S.next S)) S := by
  refine wc_fn (fn := Tryz.f106) (N := 10) (rs := []) (by rfl) (by kernel_rfl) (by rfl) (by rfl) (by rfl) (by rfl) fun hS => ?_
  have hol := hS.1 o _ h
  simp only [go_sem, ne_up2, Nat.reduceAdd, Nat.reduceLT]
  refine (wc140 h hw).mono ?_
  rintro x T ⟨rfl, hF⟩
  have hg : T.get o = some (.blk (onC 0 1 (.c .nili) (.sl wb 0 4 1 false)) 0 175) := by rw [hF.old o hol]; exact h
  simp only [hg, go_sem, put_put, ne_up1, ne_up2, ne_up3, ne_up4, ne_up5, ne_up6, Nat.reduceAdd, Nat.reduceLT, Nat.reduceLeDiff]
  exact ends_now ⟨rfl, .iface 225 (.ref (S.next + 1) 0), .c .nils, by rw [St.get_put]; exact if_pos rfl, rfl, rfl, T, hF, rfl⟩
end Go.Proofs.YtgjnimemofmncaaGreatDoor

namespace Go.Proofs.YtgjnimemofmncaaGreatDoor
open Go.Abs Go.Tx
set_option maxHeartbeats 2000000
set_option maxRecDepth 20000
open Go.RowKit in
theorem wc114 (s : List UInt8) (c : UInt8) (S : St) : WC Tryz.prog 114 [str s, str [c]] (Is (i64 (s.count c)) S) S := by
  refine wc_calls (fun vals w => Tryz.call114 vals w) fun G vals w hr hI => ?_
  obtain ⟨x, y, rfl, hx, hy⟩ := relL_two hr
  rw [rel_str hx, rel_str hy]
  refine Calls.mono (Tryz.strings_Count_one ⟨s.toArray⟩ c w) ?_
  rintro e w' ⟨rfl, rfl⟩
  exact ⟨_, rfl, .c (.int _ _), .refl _ _⟩
theorem esc_length (s : Bs) : (esc s).length = s.length + s.count 34 + s.count 92 := by
  induction s with
  | nil => rfl
  | cons c r ih =>
    have e : esc (c :: r) = (if c = 92 then [92, 92] else if c = 34 then [92, 34] else [c]) ++ esc r := by simp [esc]
    rw [e, List.length_append, ih, List.count_cons, List.count_cons, List.length_cons]
    by_cases h1 : c = 92
    · subst h1; simp; omega
    · by_cases h2 : c = 34
      · subst h2; simp; omega
      · simp [h1, h2]; omega
theorem esc_same {s : Bs} (h1 : s.count 34 = 0) (h2 : s.count 92 = 0) : esc s = s := by
  induction s with
  | nil => rfl
  | cons c r ih =>
    rw [List.count_cons] at h1 h2
    have e : esc (c :: r) = (if c = 92 then [92, 92] else if c = 34 then [92, 34] else [c]) ++ esc r := by simp [esc]
    have n1 : c ≠ 34 := fun e => by subst e; simp at h1
    have n2 : c ≠ 92 := fun e => by subst e; simp at h2
    rw [e, if_neg n2, if_neg n1, ih (by omega) (by omega)]
    rfl
theorem byteCells_app (a b : Bs) : byteCells (a ++ b) = byteCells a ++ byteCells b := by simp [byteCells]
theorem over {α : Type} (A Z x : List α) (a k : Nat) (hA : A.length = a) (hk : x.length = k) : List.take a (A ++ Z.drop a) ++ x ++ List.drop (a + k) (A ++ Z.drop a) = (A ++ x) ++ Z.drop (a + k) := by
  subst hA
  rw [List.take_left', List.drop_append, List.drop_eq_nil_of_le (by omega), List.nil_append, List.drop_drop]
  · congr 2
    omega
  · rfl
theorem esc_take (s : Bs) {i : Nat} (h : i < s.length) : esc (s.take (i + 1)) = esc (s.take i) ++ (if s[i] = 92 then [92, 92] else if s[i] = 34 then [92, 34] else [s[i]]) := by
  rw [List.take_succ_eq_append_getElem h]
  simp only [esc, List.flatMap_append, List.flatMap_cons, List.flatMap_nil, List.append_nil]
section
variable {T : St} {tb q0 q4 q7 : Nat} (hg1 : T.get tb = some (.blk (rtab (.sl q4 0 2 1 false) (.sl q7 0 2 1 false) (.sl q0 0 2 1 false)) 0 224))
  (hg4 : T.get q4 = some (.blk (byteCells [92, 34]) 0 5)) (hg7 : T.get q7 = some (.blk (byteCells [92, 92]) 0 5)) (hg0 : T.get q0 = some (.blk [.c (.str [34]), .c (.str [92])] 0 9))
include hg1 hg4 hg7 hg0
theorem wc218 (s : Bs) (hs : s.length ≤ 1000) : WC Tryz.prog 218 [.ref tb 0, str s] (Is (str (esc s)) T) T := by
  refine wc_fn (fn := Tryz.f218) (N := 122) (rs := [.tmp 4]) (by rfl) (by kernel_rfl) (by rfl) (by rfl) (by rfl) (by rfl) fun hS => ?_
  have hl := esc_length s
  simp only [hg1, rtab_last, go_sem, ne_up1, ne_dn1, ne_up2, ne_up3, ne_up4, ne_up5, ne_up6, wrap_i64, Int.cast_ofNat_Int, Nat.reduceAdd, Nat.reduceEqDiff, Nat.reduceLT, Int.reduceLE, Int.reduceNeg, Int.reduceMul]
  refine condK_cut (fun e' T' => T' = T ∧ e'.get 0 = .ref tb 0 ∧ e'.get 1 = str s ∧ e'.get 5 = i64 (esc s).length ∧ e'.get 6 = boolV (decide (s.count 34 + s.count 92 ≠ 0))) ?_ ?_
  · rcases Nat.lt_or_ge s.length 16 with hlt | hge
    · have q1 : ((16 : Int) ≤ (s.length : Int)) = False := eq_false (by omega)
      simp only [q1, go_sem, Nat.reduceLT]
      refine wloop_meas (fun m' e T' => T' = T ∧ ∃ i : Nat, m' = s.length - i ∧ i ≤ s.length ∧ e.get 0 = .ref tb 0 ∧ e.get 1 = str s ∧ e.get 5 = i64 (s.length + (s.take i).count 34 + (s.take i).count 92 : Nat) ∧ e.get 6 = boolV (decide ((s.take i).count 34 + (s.take i).count 92 ≠ 0)) ∧ e.get 10 = i64 i) ?_ s.length _ _ ?_
      rotate_left
      · exact ⟨rfl, 0, rfl, Nat.zero_le _, by simp only [go_sem, ne_up4, ne_up5, ne_up6, Nat.reduceEqDiff], by simp only [go_sem, ne_dn1, ne_up3, ne_up4, ne_up5, Nat.reduceEqDiff], by simp only [List.take_zero, List.count_nil, Nat.add_zero, go_sem, ne_up1, ne_up5, Nat.reduceEqDiff], (by simp only [go_sem, ne_up4, Nat.reduceEqDiff]; try rfl), (by simp only [go_sem, Int.cast_ofNat_Int]; try rfl)⟩
      rintro m' e T' ⟨rfl, i, rfl, hi, g0, g1, g5, g6, g10⟩
      rcases Nat.lt_or_ge i s.length with hil | hil
      · have p1 : ((i : Int) < (s.length : Int)) := by omega
        have p2 : ¬ ((i : Int) < 0) := by omega
        have p3 : s[i]? = some s[i] := by simp [hil]
        have p5 := step_wrap i (by omega)
        have hc34 : (s.take (i + 1)).count 34 = (s.take i).count 34 + (if s[i] = 34 then 1 else 0) := by
          rw [List.take_succ_eq_append_getElem hil, List.count_append, List.count_singleton]
          by_cases h : s[i] = 34 <;> simp [h]
        have hc92 : (s.take (i + 1)).count 92 = (s.take i).count 92 + (if s[i] = 92 then 1 else 0) := by
          rw [List.take_succ_eq_append_getElem hil, List.count_append, List.count_singleton]
          by_cases h : s[i] = 92 <;> simp [h]
        have hb1 := List.count_le_length (a := (34 : UInt8)) (l := s.take i)
        have hb2 := List.count_le_length (a := (92 : UInt8)) (l := s.take i)
        rw [List.length_take] at hb1 hb2
        generalize s[i] = c at *
        have c0 : ¬ ((c.toNat : Int) < 0) := by omega
        have c256 : c.toNat < 256 := c.toNat_lt
        have w1 : IntKind.i64.wrap (((s.length + (s.take i).count 34 + (s.take i).count 92 : Nat) : Int) + 1) = ((s.length + (s.take i).count 34 + (s.take i).count 92 + 1 : Nat) : Int) := step_wrap _ (by omega)
        by_cases k34 : c = 34
        · subst k34
          have hu : (((34 : UInt8).toNat : Nat) : Int) = 34 := rfl
          have p3 : s[i]? = some 34 := p3
          simp only [g0, g1, g5, g10, p1, p2, p3, p5, hg1, hu, rtab_get, if_true, if_false, w1, Int.toNat_natCast, Option.map_some, go_sem, ne_up1, ne_up2, ne_up3, ne_up4, ne_dn4, ne_up5, ne_dn5, ne_up6, wrap_i64, Int.cast_ofNat_Int, Nat.reduceAdd, Nat.reduceMul, Nat.reduceEqDiff, Nat.reduceLT, Int.reduceLT, Int.reduceLE, Int.reduceToNat, Int.reduceNeg, Int.reduceSub]
          refine ⟨s.length - (i + 1), by omega, i + 1, rfl, by omega, ?_, ?_, rfl⟩
          · rw [hc34, hc92]; simp; omega
          · rw [hc34, hc92]; simp
        · by_cases k92 : c = 92
          · subst k92
            have hu : (((92 : UInt8).toNat : Nat) : Int) = 92 := rfl
            have p3 : s[i]? = some 92 := p3
            simp only [g0, g1, g5, g10, p1, p2, p3, p5, hg1, hu, rtab_get, if_true, if_false, w1, Int.toNat_natCast, Option.map_some, go_sem, ne_up1, ne_up2, ne_up3, ne_up4, ne_dn4, ne_up5, ne_dn5, ne_up6, wrap_i64, Int.cast_ofNat_Int, Nat.reduceAdd, Nat.reduceMul, Nat.reduceEqDiff, Nat.reduceLT, Int.reduceLT, Int.reduceLE, Int.reduceToNat, Int.reduceNeg, Int.reduceSub]
            refine ⟨s.length - (i + 1), by omega, i + 1, rfl, by omega, ?_, ?_, rfl⟩
            · rw [hc34, hc92]; simp; omega
            · rw [hc34, hc92]; simp
          · have n34 : (c.toNat = 34) = False := eq_false (fun h => k34 (UInt8.toNat_inj.1 h))
            have n92 : (c.toNat = 92) = False := eq_false (fun h => k92 (UInt8.toNat_inj.1 h))
            have hrt := rtab_get (.sl q4 0 2 1 false) (.sl q7 0 2 1 false) (.sl q0 0 2 1 false) c256
            rw [if_neg (by simp [n34]), if_neg (by simp [n92])] at hrt
            simp only [g0, g1, g5, g6, g10, p1, p2, p3, p5, hg1, c0, c256, hrt, Nat.mul_one, Nat.zero_add, Int.toNat_natCast, Option.map_some, go_sem, ne_up1, ne_up2, ne_up4, ne_up5, ne_up6, Nat.reduceEqDiff, Nat.reduceLT]
            refine ⟨s.length - (i + 1), by omega, i + 1, rfl, by omega, ?_, ?_, rfl⟩
            · rw [hc34, hc92]; simp [k34, k92]
            · rw [hc34, hc92]; simp [k34, k92]
      · have p1 : ¬ ((i : Int) < (s.length : Int)) := by omega
        rw [List.take_of_length_le hil] at g5 g6
        simp only [g0, g1, g5, g6, g10, p1, go_sem, ne_up1, ne_up2, Nat.reduceEqDiff, Nat.reduceLT]
        simp [hl]
    · have q1 : ((16 : Int) ≤ (s.length : Int)) = True := eq_true (by omega)
      have u34 : (((34 : UInt8).toNat : Nat) : Int) = 34 := rfl
      have u92 : (((92 : UInt8).toNat : Nat) : Int) = 92 := rfl
      have e34 : (((s.count 34 : Nat) : Int) != 0) = decide (s.count 34 ≠ 0) := by
        by_cases h : s.count 34 = 0 <;> simp [h]
      have e92 : (((s.count 92 : Nat) : Int) != 0) = decide (s.count 92 ≠ 0) := by
        by_cases h : s.count 92 = 0 <;> simp [h]
      have hcl34 := List.count_le_length (a := (34 : UInt8)) (l := s)
      have hcl92 := List.count_le_length (a := (92 : UInt8)) (l := s)
      have w34 : IntKind.i64.wrap (((s.count 34 : Nat) : Int) * 1) = ((s.count 34 : Nat) : Int) := by rw [Int.mul_one, wrap_i64 _ (by omega) (by omega)]
      have w92 : IntKind.i64.wrap (((s.count 92 : Nat) : Int) * 1) = ((s.count 92 : Nat) : Int) := by rw [Int.mul_one, wrap_i64 _ (by omega) (by omega)]
      have v1 : IntKind.i64.wrap ((s.length : Int) + ((s.count 34 : Nat) : Int)) = ((s.length + s.count 34 : Nat) : Int) := by rw [wrap_i64 _ (by omega) (by omega)]; omega
      have v2 : IntKind.i64.wrap (((s.length + s.count 34 : Nat) : Int) + ((s.count 92 : Nat) : Int)) = ((s.length + s.count 34 + s.count 92 : Nat) : Int) := by rw [wrap_i64 _ (by omega) (by omega)]; omega
      have v3 : IntKind.i64.wrap ((s.length : Int) + ((s.count 92 : Nat) : Int)) = ((s.length + s.count 92 : Nat) : Int) := by rw [wrap_i64 _ (by omega) (by omega)]; omega
      by_cases h34 : s.count 34 = 0
      · have k34 : decide (s.count 34 ≠ 0) = false := by simp [h34]
        have k34' := h34
        by_cases h92 : s.count 92 = 0
        · have k92 : decide (s.count 92 ≠ 0) = false := by simp [h92]
          have k92' := h92
          simp only [q1, hg1, rtab_last, Option.map_some, go_sem, ne_up4, ne_up5, ne_up6, Int.cast_ofNat_Int, Nat.reduceAdd, Nat.reduceEqDiff, Nat.reduceLT]
          refine wloop_round ?_
          simp only [hg0, List.getElem?_cons_zero, Option.map_some, Nat.zero_lt_succ, go_sem, ne_up1, ne_dn1, ne_up2, ne_up3, ne_up4, ne_up5, Nat.reduceAdd, Nat.reduceMul, Nat.reduceEqDiff, Nat.reduceLT, Int.reduceLT, Int.reduceToNat]
          refine wc_is (wc114 s 34 _) ?_
          simp only [e34, k34, Option.map_some, go_sem, ne_up1, ne_up2, ne_up3, ne_up4, ne_up5, ne_up6, wrap_i64, Nat.reduceEqDiff, Nat.reduceLT, Int.reduceLE, Int.reduceNeg, Int.reduceAdd]
          refine wloop_round ?_
          simp only [hg0, List.getElem?_cons_zero, List.getElem?_cons_succ, Option.map_some, Nat.lt_succ_self, go_sem, ne_up1, ne_dn1, ne_up2, ne_up3, ne_up4, ne_up5, ne_up6, Nat.reduceAdd, Nat.reduceMul, Nat.reduceEqDiff, Nat.reduceLT, Int.reduceLT, Int.reduceToNat]
          refine wc_is (wc114 s 92 _) ?_
          simp only [e92, k92, Option.map_some, go_sem, ne_up1, ne_up2, ne_up3, ne_up4, ne_up5, ne_up6, wrap_i64, Nat.reduceEqDiff, Nat.reduceLT, Int.reduceLE, Int.reduceNeg, Int.reduceAdd]
          refine wloop_round ?_
          simp only [Option.map_some, go_sem, ne_up1, ne_dn1, ne_up2, ne_up3, ne_up4, ne_up5, ne_up6, Nat.reduceEqDiff, Nat.reduceLT, Int.reduceLT]
          simp [hl, k34', k92']
        · have k92 : decide (s.count 92 ≠ 0) = true := by simp [h92]
          have k92' := h92
          simp only [q1, hg1, rtab_last, Option.map_some, go_sem, ne_up4, ne_up5, ne_up6, Int.cast_ofNat_Int, Nat.reduceAdd, Nat.reduceEqDiff, Nat.reduceLT]
          refine wloop_round ?_
          simp only [hg0, List.getElem?_cons_zero, Option.map_some, Nat.zero_lt_succ, go_sem, ne_up1, ne_dn1, ne_up2, ne_up3, ne_up4, ne_up5, Nat.reduceAdd, Nat.reduceMul, Nat.reduceEqDiff, Nat.reduceLT, Int.reduceLT, Int.reduceToNat]
          refine wc_is (wc114 s 34 _) ?_
          simp only [e34, k34, Option.map_some, go_sem, ne_up1, ne_up2, ne_up3, ne_up4, ne_up5, ne_up6, wrap_i64, Nat.reduceEqDiff, Nat.reduceLT, Int.reduceLE, Int.reduceNeg, Int.reduceAdd]
          refine wloop_round ?_
          simp only [hg0, List.getElem?_cons_zero, List.getElem?_cons_succ, Option.map_some, Nat.lt_succ_self, go_sem, ne_up1, ne_dn1, ne_up2, ne_up3, ne_up4, ne_up5, ne_up6, Nat.reduceAdd, Nat.reduceMul, Nat.reduceEqDiff, Nat.reduceLT, Int.reduceLT, Int.reduceToNat]
          refine wc_is (wc114 s 92 _) ?_
          simp only [e92, k92, Option.map_some, go_sem, Nat.reduceLT]
          refine wdraw_plan ch218x9 pp218x9 (by kernel_rfl) (by kernel_rfl) (by kernel_rfl) ?_
          simp only [u92, rtab_get, if_true, if_false, w92, v3, hg1, List.getElem?_cons_zero, List.getElem?_cons_succ, Option.map_some, go_sem, ne_up1, ne_up2, ne_up3, ne_up4, ne_up5, ne_up6, wrap_i64, Int.cast_ofNat_Int, Nat.reduceAdd, Nat.reduceMul, Nat.reduceEqDiff, Nat.reduceLT, Int.reduceLT, Int.reduceLE, Int.reduceToNat, Int.reduceNeg, Int.reduceAdd, Int.reduceSub]
          refine wloop_round ?_
          simp only [Option.map_some, go_sem, ne_up1, ne_dn1, ne_up2, ne_up3, ne_up4, ne_up5, ne_up6, Nat.reduceEqDiff, Nat.reduceLT, Int.reduceLT]
          simp [hl, k34', k92']
      · have k34 : decide (s.count 34 ≠ 0) = true := by simp [h34]
        have k34' := h34
        by_cases h92 : s.count 92 = 0
        · have k92 : decide (s.count 92 ≠ 0) = false := by simp [h92]
          have k92' := h92
          simp only [q1, hg1, rtab_last, Option.map_some, go_sem, ne_up4, ne_up5, ne_up6, Int.cast_ofNat_Int, Nat.reduceAdd, Nat.reduceEqDiff, Nat.reduceLT]
          refine wloop_round ?_
          simp only [hg0, List.getElem?_cons_zero, Option.map_some, Nat.zero_lt_succ, go_sem, ne_up1, ne_dn1, ne_up2, ne_up3, ne_up4, ne_up5, Nat.reduceAdd, Nat.reduceMul, Nat.reduceEqDiff, Nat.reduceLT, Int.reduceLT, Int.reduceToNat]
          refine wc_is (wc114 s 34 _) ?_
          simp only [e34, k34, Option.map_some, go_sem, Nat.reduceLT]
          refine wdraw_plan ch218x9 pp218x9 (by kernel_rfl) (by kernel_rfl) (by kernel_rfl) ?_
          simp only [u34, rtab_get, if_true, if_false, w34, v1, hg1, List.getElem?_cons_zero, List.getElem?_cons_succ, Option.map_some, go_sem, ne_up1, ne_up2, ne_up3, ne_up4, ne_up5, ne_up6, wrap_i64, Int.cast_ofNat_Int, Nat.reduceAdd, Nat.reduceMul, Nat.reduceEqDiff, Nat.reduceLT, Int.reduceLT, Int.reduceLE, Int.reduceToNat, Int.reduceNeg, Int.reduceAdd, Int.reduceSub]
          refine wloop_round ?_
          simp only [hg0, List.getElem?_cons_zero, List.getElem?_cons_succ, Option.map_some, Nat.lt_succ_self, go_sem, ne_up1, ne_dn1, ne_up2, ne_up3, ne_up4, ne_up5, ne_up6, Nat.reduceAdd, Nat.reduceMul, Nat.reduceEqDiff, Nat.reduceLT, Int.reduceLT, Int.reduceToNat]
          refine wc_is (wc114 s 92 _) ?_
          simp only [e92, k92, Option.map_some, go_sem, ne_up1, ne_up2, ne_up3, ne_up4, ne_up5, ne_up6, wrap_i64, Nat.reduceEqDiff, Nat.reduceLT, Int.reduceLE, Int.reduceNeg, Int.reduceAdd]
          refine wloop_round ?_
          simp only [Option.map_some, go_sem, ne_up1, ne_dn1, ne_up2, ne_up3, ne_up4, ne_up5, ne_up6, Nat.reduceEqDiff, Nat.reduceLT, Int.reduceLT]
          simp [hl, k34', k92']
        · have k92 : decide (s.count 92 ≠ 0) = true := by simp [h92]
          have k92' := h92
          simp only [q1, hg1, rtab_last, Option.map_some, go_sem, ne_up4, ne_up5, ne_up6, Int.cast_ofNat_Int, Nat.reduceAdd, Nat.reduceEqDiff, Nat.reduceLT]
          refine wloop_round ?_
          simp only [hg0, List.getElem?_cons_zero, Option.map_some, Nat.zero_lt_succ, go_sem, ne_up1, ne_dn1, ne_up2, ne_up3, ne_up4, ne_up5, Nat.reduceAdd, Nat.reduceMul, Nat.reduceEqDiff, Nat.reduceLT, Int.reduceLT, Int.reduceToNat]
          refine wc_is (wc114 s 34 _) ?_
          simp only [e34, k34, Option.map_some, go_sem, Nat.reduceLT]
          refine wdraw_plan ch218x9 pp218x9 (by kernel_rfl) (by kernel_rfl) (by kernel_rfl) ?_
          simp only [u34, rtab_get, if_true, if_false, w34, v1, hg1, List.getElem?_cons_zero, List.getElem?_cons_succ, Option.map_some, go_sem, ne_up1, ne_up2, ne_up3, ne_up4, ne_up5, ne_up6, wrap_i64, Int.cast_ofNat_Int, Nat.reduceAdd, Nat.reduceMul, Nat.reduceEqDiff, Nat.reduceLT, Int.reduceLT, Int.reduceLE, Int.reduceToNat, Int.reduceNeg, Int.reduceAdd, Int.reduceSub]
          refine wloop_round ?_
          simp only [hg0, List.getElem?_cons_zero, List.getElem?_cons_succ, Option.map_some, Nat.lt_succ_self, go_sem, ne_up1, ne_dn1, ne_up2, ne_up3, ne_up4, ne_up5, ne_up6, Nat.reduceAdd, Nat.reduceMul, Nat.reduceEqDiff, Nat.reduceLT, Int.reduceLT, Int.reduceToNat]
          refine wc_is (wc114 s 92 _) ?_
          simp only [e92, k92, Option.map_some, go_sem, Nat.reduceLT]
          refine wdraw_plan ch218x9 pp218x9 (by kernel_rfl) (by kernel_rfl) (by kernel_rfl) ?_
          simp only [u92, rtab_get, if_true, if_false, w92, v2, hg1, List.getElem?_cons_zero, List.getElem?_cons_succ, Option.map_some, go_sem, ne_up1, ne_up2, ne_up3, ne_up4, ne_up5, ne_up6, wrap_i64, Int.cast_ofNat_Int, Nat.reduceAdd, Nat.reduceMul, Nat.reduceEqDiff, Nat.reduceLT, Int.reduceLT, Int.reduceLE, Int.reduceToNat, Int.reduceNeg, Int.reduceAdd, Int.reduceSub]
          refine wloop_round ?_
          simp only [Option.map_some, go_sem, ne_up1, ne_dn1, ne_up2, ne_up3, ne_up4, ne_up5, ne_up6, Nat.reduceEqDiff, Nat.reduceLT, Int.reduceLT]
          simp [hl, k34', k92']
  · rintro e T' ⟨rfl, g0, g1, g5, g6⟩
    by_cases hany : s.count 34 + s.count 92 = 0
    · have b1 : decide (s.count 34 + s.count 92 ≠ 0) = false := decide_eq_false (by omega)
      rw [b1] at g6
      simp only [g1, g6, Bool.not_false, go_sem, Nat.reduceEqDiff, Nat.reduceLT]
      have he := esc_same (s := s) (by omega) (by omega)
      exact ends_now ⟨by rw [he], rfl⟩
    have b1 : decide (s.count 34 + s.count 92 ≠ 0) = true := decide_eq_true (by omega)
    rw [b1] at g6
    have hcl34 := List.count_le_length (a := (34 : UInt8)) (l := s)
    have hcl92 := List.count_le_length (a := (92 : UInt8)) (l := s)
    have w0 : (0 : Int) ≤ ((esc s).length : Int) := by omega
    have w3 : (esc s).length ≤ 140737488355328 := by omega
    simp only [g5, g6, Bool.not_true, w0, w3, t5b, t5s, Int.le_refl, Int.toNat_natCast, Nat.mul_one, Nat.lt_succ_self, go_sem, maxLenA, Nat.reduceAdd, Nat.reduceEqDiff, Nat.reduceLT]
    rw [repCells_one]
    generalize hZ : List.replicate (esc s).length (AV.c (.int .u8 0)) = Z
    have hZl : Z.length = (esc s).length := by rw [← hZ]; simp
    have hel : ∀ i, (esc (s.take i)).length ≤ (esc s).length := fun i => by
      have : esc s = esc (s.take i) ++ esc (s.drop i) := by
        unfold esc
        rw [← List.flatMap_append, List.take_append_drop]
      rw [this, List.length_append]; omega
    refine wloop_meas (fun m' e S' => ∃ i : Nat, m' = s.length - i ∧ i ≤ s.length ∧ S' = T'.new (.blk (byteCells (esc (s.take i)) ++ Z.drop (esc (s.take i)).length) 0 5) ∧ e.get 0 = .ref tb 0 ∧ e.get 1 = str s ∧ e.get 12 = .sl T'.next 0 (esc s).length 1 true ∧ e.get 13 = i64 (esc (s.take i)).length ∧ e.get 14 = i64 i) ?_ s.length _ _ ?_
    rotate_left
    · exact ⟨0, rfl, Nat.zero_le _, rfl, by simp only [g0, go_sem, Nat.reduceEqDiff], by simp only [g1, go_sem, Nat.reduceEqDiff], by simp only [go_sem, ne_up1, ne_up2], (by simp only [go_sem, ne_up1]; try rfl), (by simp only [go_sem, Int.cast_ofNat_Int]; try rfl)⟩
    clear e g0 g1 g5 g6
    rintro m' e S' ⟨i, rfl, hi, rfl, g0, g1, g12, g13, g14⟩
    rcases Nat.lt_or_ge i s.length with hil | hil
    · have p1 : ((i : Int) < (s.length : Int)) := by omega
      have p2 : ¬ ((i : Int) < 0) := by omega
      have p3 : s[i]? = some s[i] := by simp [hil]
      have p5 := step_wrap i (by omega)
      have het := esc_take s hil
      have h1 := hel (i + 1)
      have hlb := byteCells_length (esc (s.take i))
      generalize hA : esc (s.take i) = A at *
      generalize s[i] = c at *
      have c0 : ¬ ((c.toNat : Int) < 0) := by omega
      have c256 : c.toNat < 256 := c.toNat_lt
      have ntb : (T'.next = tb) = False := eq_false (by have := hS.1 _ _ hg1; omega)
      have nq4 : (T'.next = q4) = False := eq_false (by have := hS.1 _ _ hg4; omega)
      have nq7 : (T'.next = q7) = False := eq_false (by have := hS.1 _ _ hg7; omega)
      by_cases k92 : c = 92
      · subst k92
        have het' : esc (s.take (i + 1)) = A ++ [92, 92] := by rw [het]; rfl
        have hu : (((92 : UInt8).toNat : Nat) : Int) = 92 := rfl
        have p3 : s[i]? = some 92 := p3
        rw [het'] at h1
        simp only [List.length_append, List.length_cons, List.length_nil] at h1
        have hbt : byteCells [92, 92] = [.c (.int .u8 92), .c (.int .u8 92)] := rfl
        have hov := over (byteCells A) Z (byteCells [92, 92]) A.length 2 hlb rfl
        have hcl : (byteCells A ++ Z.drop A.length).length = (esc s).length := by rw [List.length_append, hlb, List.length_drop, hZl]; omega
        have y1 : (0 : Int) ≤ (A.length : Int) := by omega
        have y2 : A.length ≤ (esc s).length := by omega
        have y3 : IntKind.i64.wrap ((A.length : Int) + 2) = ((A.length + 2 : Nat) : Int) := by rw [wrap_i64 _ (by omega) (by omega)]; omega
        have y4 : min 2 ((esc s).length - A.length) = 2 := by omega
        have y5 : A.length + ((esc s).length - A.length) ≤ (esc s).length := by omega
        simp only [g0, g1, g14, p1, p2, p3, hg1, ntb, hu, rtab_get, if_true, if_false, Int.toNat_natCast, Option.map_some, go_sem, ne_up1, ne_up2, Nat.reduceAdd, Nat.reduceMul, Nat.reduceEqDiff, Nat.reduceLT, Int.reduceLT, Int.reduceToNat]
        refine wdraw_plan ch218x28 pp218x28 (by kernel_rfl) (by kernel_rfl) (by kernel_rfl) ?_
        simp only [g0, g1, g12, g13, g14, p5, hg1, ntb, hg7, nq7, rtab_get, if_true, if_false, y1, y2, y3, y4, y5, hcl, hbt, Nat.mul_one, Nat.zero_add, Nat.zero_le, Int.toNat_natCast, Option.map_some, Nat.le_refl, go_sem, put_new, ne_up1, ne_dn1, ne_up2, ne_up3, ne_up4, ne_up5, ne_up6, Int.cast_ofNat_Int, Nat.reduceAdd, Nat.reduceEqDiff, Nat.reduceLT, Int.reduceLT, Int.reduceToNat]
        refine ⟨s.length - (i + 1), by omega, i + 1, rfl, by omega, ?_, ?_, rfl⟩
        · rw [het', byteCells_app, List.length_append]
          exact congrArg (fun l => T'.new (.blk l 0 5)) hov
        · rw [het', List.length_append]
          rfl
      by_cases k34 : c = 34
      · subst k34
        have het' : esc (s.take (i + 1)) = A ++ [92, 34] := by rw [het]; rfl
        have hu : (((34 : UInt8).toNat : Nat) : Int) = 34 := rfl
        have p3 : s[i]? = some 34 := p3
        rw [het'] at h1
        simp only [List.length_append, List.length_cons, List.length_nil] at h1
        have hbt : byteCells [92, 34] = [.c (.int .u8 92), .c (.int .u8 34)] := rfl
        have hov := over (byteCells A) Z (byteCells [92, 34]) A.length 2 hlb rfl
        have hcl : (byteCells A ++ Z.drop A.length).length = (esc s).length := by rw [List.length_append, hlb, List.length_drop, hZl]; omega
        have y1 : (0 : Int) ≤ (A.length : Int) := by omega
        have y2 : A.length ≤ (esc s).length := by omega
        have y3 : IntKind.i64.wrap ((A.length : Int) + 2) = ((A.length + 2 : Nat) : Int) := by rw [wrap_i64 _ (by omega) (by omega)]; omega
        have y4 : min 2 ((esc s).length - A.length) = 2 := by omega
        have y5 : A.length + ((esc s).length - A.length) ≤ (esc s).length := by omega
        simp only [g0, g1, g14, p1, p2, p3, hg1, ntb, hu, rtab_get, if_true, if_false, Int.toNat_natCast, Option.map_some, go_sem, ne_up1, ne_up2, Nat.reduceAdd, Nat.reduceMul, Nat.reduceEqDiff, Nat.reduceLT, Int.reduceLT, Int.reduceToNat]
        refine wdraw_plan ch218x28 pp218x28 (by kernel_rfl) (by kernel_rfl) (by kernel_rfl) ?_
        simp only [g0, g1, g12, g13, g14, p5, hg1, ntb, hg4, nq4, rtab_get, if_true, if_false, y1, y2, y3, y4, y5, hcl, hbt, Nat.mul_one, Nat.zero_add, Nat.zero_le, Int.toNat_natCast, Option.map_some, Nat.le_refl, go_sem, put_new, ne_up1, ne_dn1, ne_up2, ne_up3, ne_up4, ne_up5, ne_up6, Int.cast_ofNat_Int, Nat.reduceAdd, Nat.reduceEqDiff, Nat.reduceLT, Int.reduceLT, Int.reduceToNat]
        refine ⟨s.length - (i + 1), by omega, i + 1, rfl, by omega, ?_, ?_, rfl⟩
        · rw [het', byteCells_app, List.length_append]
          exact congrArg (fun l => T'.new (.blk l 0 5)) hov
        · rw [het', List.length_append]
          rfl
      have het' : esc (s.take (i + 1)) = A ++ [c] := by rw [het, if_neg k92, if_neg k34]
      have n34 : (c.toNat = 34) = False := eq_false (fun h => k34 (UInt8.toNat_inj.1 h))
      have n92 : (c.toNat = 92) = False := eq_false (fun h => k92 (UInt8.toNat_inj.1 h))
      have hrt := rtab_get (.sl q4 0 2 1 false) (.sl q7 0 2 1 false) (.sl q0 0 2 1 false) c256
      rw [if_neg (by simp [n34]), if_neg (by simp [n92])] at hrt
      rw [het'] at h1
      simp only [List.length_append, List.length_cons, List.length_nil] at h1
      have hbt : byteCells [c] = [.c (.int .u8 (c.toNat : Int))] := rfl
      have hov := over (byteCells A) Z (byteCells [c]) A.length 1 hlb rfl
      have hcl : (byteCells A ++ Z.drop A.length).length = (esc s).length := by rw [List.length_append, hlb, List.length_drop, hZl]; omega
      have y1 : ¬ ((A.length : Int) < 0) := by omega
      have y2 : A.length < (esc s).length := by omega
      have y3 : IntKind.i64.wrap ((A.length : Int) + 1) = ((A.length + 1 : Nat) : Int) := step_wrap _ (by omega)
      have y5 : A.length + 1 ≤ (esc s).length := by omega
      simp only [g0, g1, g12, g13, g14, p1, p2, p3, p5, hg1, ntb, c0, c256, hrt, y1, y2, y3, y5, hcl, Nat.mul_one, Nat.zero_add, Nat.zero_le, Int.toNat_natCast, Option.map_some, go_sem, put_new, ne_up1, ne_dn1, ne_up2, ne_up3, Nat.reduceEqDiff, Nat.reduceLT]
      refine ⟨s.length - (i + 1), by omega, i + 1, rfl, by omega, ?_, ?_, rfl⟩
      · rw [het', byteCells_app, List.length_append]
        exact congrArg (fun l => T'.new (.blk l 0 5)) hov
      · rw [het', List.length_append]
        rfl
    · have p1 : ¬ ((i : Int) < (s.length : Int)) := by omega
      rw [List.take_of_length_le hil] at g13 ⊢
      have hzd : Z.drop (esc s).length = [] := List.drop_eq_nil_of_le (by omega)
      have hbo := bytesOf_cells (esc s)
      have hlb := byteCells_length (esc s)
      have htk : (byteCells (esc s)).take (esc s).length = byteCells (esc s) := List.take_of_length_le (by omega)
      rw [hzd, List.append_nil]
      simp only [g1, g12, g14, p1, hbo, hlb, htk, Nat.mul_one, Nat.zero_add, List.drop_zero, Nat.le_refl, Option.map_some, go_sem, ne_up1, ne_up2, Nat.reduceEqDiff, Nat.reduceLT]
      exact ends_fwd (by repeat (first | exact Fwd.refl hS | assumption | refine Fwd.new ?_ _ | refine Fwd.put ?_ (by first | exact Nat.le_refl _ | exact Nat.le_succ _ | exact Nat.le_add_right _ _ | omega | (simp only [next_new, next_put]; omega)) _)) rfl ⟨rfl, rfl⟩
end
end Go.Proofs.YtgjnimemofmncaaGreatDoor

namespace Go.Proofs.YtgjnimemofmncaaGreatDoor
open Go.Abs Go.Tx
set_option maxHeartbeats 1000000
set_option maxRecDepth 20000
theorem met218 : methodA Tryz.prog 225 "Replace" = some 218 := by kernel_rfl
def ReplacedIs (s : Bs) (o : Nat) (S : St) (x : CX) (T : St) : Prop := x = .ret (str (esc s)) ∧ ∃ T0 a b c, FR (S.put o a) [] T0 ∧ T = (T0.put o b).put o c
theorem wc67 {S : St} {o wb : Nat} (h : S.get o = some (.blk (onC 0 0 (.c .nili) (.sl wb 0 4 1 false)) 0 175)) (hw : S.get wb = some (.blk wdC 0 9)) (hne : wb ≠ o) (s : Bs) (hs : s.length ≤ 1000) :
    WC Tryz.prog 67 [.ref o 0, str s] (ReplacedIs s o S) S := by
  refine wc_fn (fn := Tryz.f67) (N := 17) (rs := [.tmp 4]) (by rfl) (by kernel_rfl) (by rfl) (by rfl) (by rfl) (by rfl) fun hS => ?_
  have hol := hS.1 o _ h
  simp only [go_sem, ne_up1, ne_up2, ne_up4, ne_up5, ne_up6, mkClo, Nat.reduceAdd, Nat.reduceEqDiff, Nat.reduceLT]
  refine (wc105 h (wc106 (S := S.put o (.blk (onC 0 1 (.c .nili) (.sl wb 0 4 1 false)) 0 175)) (wb := wb) (by rw [St.get_put]; exact if_pos rfl) (by rw [St.get_put, if_neg (by first | exact hne | exact fun e => hne e.symm)]; exact hw))).mono ?_
  rintro x T ⟨rfl, r, ow, T1, ⟨rfl, rfl, T0, hF, rfl⟩, rfl⟩
  have e0 : (S.put o (.blk (onC 0 1 (.c .nili) (.sl wb 0 4 1 false)) 0 175)).next = S.next := rfl
  rw [e0] at hF ⊢
  generalize hT : (T0.put o (.blk (onC 0 1 (.iface 225 (.ref (S.next + 1) 0)) (.c .nils)) 0 175)).put o (.blk (onC 1 0 (.iface 225 (.ref (S.next + 1) 0)) (.c .nils)) 0 175) = T
  have hg : T.get o = some (.blk (onC 1 0 (.iface 225 (.ref (S.next + 1) 0)) (.c .nils)) 0 175) := by rw [← hT, St.get_put]; exact if_pos rfl
  have hother : ∀ b ob, (b, ob) ∈ tabO S.next → T.get b = some ob := fun b ob hb => by
    have h1 := hF.ge hb
    have h2 : S.next ≤ b := h1
    rw [← hT, St.get_put, if_neg (by omega), St.get_put, if_neg (by omega)]
    exact hF.get hb
  simp only [hg, evInvoke, met218, go_sem, ne_up1, ne_dn1, ne_up3, ne_up4, ne_up5, ne_up6, Nat.reduceAdd, Nat.reduceEqDiff, Nat.reduceLT]
  refine wc_is (wc218 (hother (S.next + 1) _ (.tail _ (.tail _ (.head _)))) (hother (S.next + 4) _ (.tail _ (.head _))) (hother (S.next + 7) _ (.head _)) (hother S.next _ (.tail _ (.tail _ (.tail _ (.head _))))) s hs) ?_
  simp only [go_sem, Nat.reduceLT]
  exact ends_now ⟨rfl, T0, _, _, _, hF.sub (List.nil_sublist _), hT.symm⟩
theorem wc29 {m : Int} {S : St} (hk : S.known = KN m) (s : List UInt8) (hs : s.length ≤ 1000) : WC Tryz.prog 29 [str s] (Is (str (Tx.quoted s)) S) S := by
  refine wc_fn (fn := Tryz.f29) (N := 9) (rs := [.tmp 2]) (by rfl) (by kernel_rfl) (by rfl) (by rfl) (by rfl) (by rfl) fun hS => ?_
  simp only [go_sem, Nat.reduceAdd, Nat.reduceMul, Nat.reduceLT, Nat.reduceLeDiff]
  refine (wc66 (wb := S.next) (by rw [St.get_new]; exact if_pos rfl)).mono ?_
  rintro x T ⟨rfl, rfl⟩
  simp only [go_sem, ne_up1, ne_up2, ne_up3, ne_up4, Nat.reduceLT]
  have f1 := (((FR.start hS.1).tmp (.blk wdC 0 9)).new (.blk wdC 0 9)).new (.blk (onC 0 0 (.c .nili) (.sl (S.next + 1) 0 4 1 false)) 0 175)
  refine (wc67 (o := S.next + 1 + 1) (wb := S.next + 1) f1.get1 (f1.get (.tail _ (.head _))) (by omega) s hs).mono ?_
  rintro x T ⟨rfl, T0, a, b, c, hF, rfl⟩
  have hl := esc_length s
  have hc1 := List.count_le_length (a := (34 : UInt8)) (l := s)
  have hc2 := List.count_le_length (a := (92 : UInt8)) (l := s)
  have q1 : 1 + (esc s).length ≤ 140737488355328 := by omega
  have q2 : (esc s).length + 1 + 1 ≤ 140737488355328 := by omega
  simp only [q1, q2, List.length_cons, if_true, Option.map_some, go_sem, maxLenA, put_put, Nat.reduceAdd, Nat.reduceLT]
  exact ends_fwd ((((f1.put a).trans hF).put c).fwd hS) rfl ⟨by simp [Tx.quoted], rfl⟩
end Go.Proofs.YtgjnimemofmncaaGreatDoor

namespace Go.Proofs.YtgjnimemofmncaaGreatDoor
open Go.Abs Go.Tx
set_option maxHeartbeats 1000000
set_option maxRecDepth 20000
structure HC (m : Int) (wb : Nat) (S : St) (L : List (Nat × Ob)) (bs : List UInt8) (T : St) : Prop where
  wf : T.Wf
  wr : Wr wb bs T
  keep : WKeep wb S T
  wb_lt : wb < S.next
  swf : S.Wf
  kn : S.known = KN m
  at_ : ∀ p ∈ L, T.get p.1 = some p.2 ∧ wb < p.1 ∧ ∃ cs ro U, p.2 = .blk cs ro U ∧ U ≠ 5 ∧ U ≠ 59
variable {m : Int} {wb : Nat} {S T T' : St} {L : List (Nat × Ob)} {bs bs' : List UInt8}
theorem HC.start (h : Wr wb bs S) (hS : Shut S) (hk : S.known = KN m) : HC m wb S [] bs S :=
  ⟨hS.1, h, .refl wb S, h.lt hS.1, hS.1, hk, by simp⟩
theorem HC.known (h : HC m wb S L bs T) : T.known = KN m := h.keep.known.trans h.kn
theorem HC.box (h : HC m wb S L bs T) (cs : List AV) (ro : Nat) (U : TypeId) (h5 : U ≠ 5) (h59 : U ≠ 59) : HC m wb S ((T.next, .blk cs ro U) :: L) bs (T.new (.blk cs ro U)) := by
  refine ⟨wf_new h.wf, h.wr.new h.wf _, h.keep.new h.swf h.wb_lt _, h.wb_lt, h.swf, h.kn, fun p hp => ?_⟩
  rcases List.mem_cons.1 hp with rfl | hp
  · exact ⟨by rw [St.get_new]; exact if_pos rfl, Nat.lt_of_lt_of_le h.wb_lt h.keep.next, cs, ro, U, rfl, h5, h59⟩
  · obtain ⟨h1, h2⟩ := h.at_ p hp
    have := h.wf _ _ h1
    exact ⟨by rw [St.get_new, if_neg (by omega)]; exact h1, h2⟩
theorem HC.tmp (h : HC m wb S L bs T) (o : Ob) : HC m wb S L bs (T.new o) := by
  refine ⟨wf_new h.wf, h.wr.new h.wf _, h.keep.new h.swf h.wb_lt _, h.wb_lt, h.swf, h.kn, fun p hp => ?_⟩
  obtain ⟨h1, h2⟩ := h.at_ p hp
  have := h.wf _ _ h1
  exact ⟨by rw [St.get_new, if_neg (by omega)]; exact h1, h2⟩
theorem HC.set {b : Nat} {o : Ob} (h : HC m wb S ((b, o) :: L) bs T) (hb : S.next ≤ b) (hL : ∀ p ∈ L, p.1 ≠ b) (cs : List AV) (ro : Nat) (U : TypeId) (h5 : U ≠ 5) (h59 : U ≠ 59) : HC m wb S ((b, .blk cs ro U) :: L) bs (T.put b (.blk cs ro U)) := by
  obtain ⟨g1, g2, cs0, ro0, U0, rfl, g5, g59⟩ := h.at_ _ (List.mem_cons_self ..)
  refine ⟨wf_put h.wf (h.wf _ _ g1), h.wr.put g1 g59 g5 _, h.keep.putN h.swf h.wb_lt hb _, h.wb_lt, h.swf, h.kn, fun p hp => ?_⟩
  rcases List.mem_cons.1 hp with rfl | hp
  · exact ⟨by rw [St.get_put]; exact if_pos rfl, g2, cs, ro, U, rfl, h5, h59⟩
  · obtain ⟨h1, h2⟩ := h.at_ p (List.mem_cons_of_mem _ hp)
    exact ⟨by rw [St.get_put, if_neg (fun e => hL p hp e.symm)]; exact h1, h2⟩
theorem HC.drop {b : Nat} {o o' : Ob} (h : HC m wb S ((b, o) :: L) bs T) (hb : S.next ≤ b) (hL : ∀ p ∈ L, p.1 ≠ b) : HC m wb S L bs (T.put b o') := by
  obtain ⟨g1, g2, cs0, ro0, U0, rfl, g5, g59⟩ := h.at_ _ (List.mem_cons_self ..)
  refine ⟨wf_put h.wf (h.wf _ _ g1), h.wr.put g1 g59 g5 _, h.keep.putN h.swf h.wb_lt hb _, h.wb_lt, h.swf, h.kn, fun p hp => ?_⟩
  obtain ⟨h1, h2⟩ := h.at_ p (List.mem_cons_of_mem _ hp)
  exact ⟨by rw [St.get_put, if_neg (fun e => hL p hp e.symm)]; exact h1, h2⟩
theorem HC.forget {p : Nat × Ob} (h : HC m wb S (p :: L) bs T) : HC m wb S L bs T :=
  ⟨h.wf, h.wr, h.keep, h.wb_lt, h.swf, h.kn, fun q hq => h.at_ q (List.mem_cons_of_mem _ hq)⟩
theorem HC.step (h : HC m wb S L bs T) (hS : Shut T') (hW : Wr wb bs' T') (hK : WKeep wb T T') : HC m wb S L bs' T' := by
  refine ⟨hS.1, hW, h.keep.trans hK, h.wb_lt, h.swf, h.kn, fun p hp => ?_⟩
  obtain ⟨h1, h2, cs, ro, U, h3, h4, h5⟩ := h.at_ p hp
  exact ⟨by rw [h3]; exact hK.kept _ _ _ _ h2 (by rw [← h3]; exact h1) h4, h2, cs, ro, U, h3, h4, h5⟩
theorem HC.get (h : HC m wb S L bs T) {b : Nat} {o : Ob} (hb : (b, o) ∈ L) : T.get b = some o := (h.at_ _ hb).1
theorem HC.ne (h : HC m wb S L bs T) {b : Nat} {o : Ob} (hb : (b, o) ∈ L) : (T.next = b) = False := by
  have := h.wf _ _ (h.get hb)
  exact eq_false (by omega)
theorem wc_hc {v : AV} {S0 : St} {f : FuncId} {args : List AV} {K : CX → St → Prop} (hc : HC m wb S L bs S0) (h : WC Tryz.prog f args (WrIs wb bs' v S0) T)
    (k : ∀ T', HC m wb S L bs' T' → K (.ret v) T') : WC Tryz.prog f args K T :=
  wc_shut_post h fun x T' ⟨e, h1, h2⟩ hS => by subst e; exact k T' (hc.step hS h1 h2)
theorem wc35b {S : St} (hk : S.known = KN m) {b ro : Nat} {full : Bool} (l : List Int) (hb : S.get b = some (.blk (l.map i64) ro 3)) (hl : ∀ n ∈ l, I64 n) (hn : l.length ≤ 1000000000) : WC Tryz.prog 35 [.sl b 0 l.length 1 full] (Is (wordsV (l.map Lib.itoa)) S) S := by
  have q1 : (0 : Int) ≤ (l.length : Int) := by omega
  have q2 : l.length * 16 ≤ 140737488355328 := by omega
  refine wc_fn (fn := Tryz.f35) (N := 22) (rs := [.tmp 2]) (by rfl) (by kernel_rfl) (by rfl) (by rfl) (by rfl) (by rfl) fun hS => ?_
  have hbn := hS.1 b _ hb
  have hneb : (S.next = b) = False := eq_false (by omega)
  simp only [q1, q2, t9b, t9s, Int.toNat_natCast, Int.toNat_zero, go_sem, maxLenA, ne_up2, ne_up3, ne_up6, Nat.reduceAdd, Nat.reduceEqDiff, Nat.reduceLT, Int.reduceLE]
  rw [repCells_one]
  refine wloop_meas (fun m' e S' => ∃ (i : Nat) (full' : Bool), m' = l.length - i ∧ i ≤ l.length ∧ Fwd S S' ∧ S.next < S'.next ∧ S'.get S.next = some (.blk (numC l i) 0 9) ∧ (i < l.length → full' = false) ∧ e.get 3 = .sl S.next 0 i 1 full' ∧ e.get 9 = .sl b 0 l.length 1 full ∧ e.get 10 = i64 l.length ∧ e.get 11 = i64 i) ?_ l.length _ _ ?_
  · rintro m' e S' ⟨i, full', rfl, hi, hF, hlt', hB, hfull, g3, g9, g10, g11⟩
    rcases Nat.lt_or_ge i l.length with hlt | hge
    · have h1 : ((i : Int) < (l.length : Int)) := by omega
      have h2 : ¬ ((i : Int) < 0) := by omega
      have h3 : (l.map i64)[i]? = some (i64 l[i]) := by simp [hlt]
      have h5 := step_wrap i (by omega)
      have hne : (S'.next = S.next) = False := by simp; omega
      have hb' : S'.get b = some (.blk (l.map i64) ro 3) := by rw [hF.get hbn]; exact hb
      have hk' : S'.known = KN m := by rw [hF.known]; exact hk
      have hr := hl l[i] (List.getElem_mem hlt)
      have z1 : (i + 1) * 16 ≤ 140737488355328 := by omega
      have z2 : i + 1 ≤ l.length := by omega
      have z3 : (numC l i).length = l.length := numC_length l i hi
      have z4 := numC_step' l i hlt
      have z5 : i ≤ l.length := hi
      rw [hfull hlt] at g3
      simp only [g3, g9, g10, g11, h1, h2, h3, hlt, hb', Nat.mul_one, Nat.zero_add, Int.toNat_natCast, Option.map_some, go_sem, ne_up1, ne_up2, ne_up3, Nat.reduceEqDiff, Nat.reduceLT]
      refine wc_is (wc32 hk' _ hr.1 hr.2) ?_
      simp only [g9, g10, g11, hne, hB, t9b, t9s, t9z, size_one, z1, z2, z3, z4, z5, h5, Nat.mul_one, Nat.zero_add, Nat.zero_le, Option.map_some, go_sem, maxLenA, ne_up1, ne_up2, ne_up3, ne_up4, ne_dn4, ne_up5, ne_dn5, ne_up6, ne_dn6, Option.some.injEq, Nat.reduceSub, Nat.reduceEqDiff, Nat.reduceLT, Nat.reduceLeDiff]
      exact ⟨l.length - (i + 1), by omega, i + 1, false, rfl, by omega, (hF.new _).put (Nat.le_refl _) _, by omega, rfl, fun _ => rfl, rfl, rfl⟩
    · have h1 : ¬ ((i : Int) < (l.length : Int)) := by omega
      have hi' : i = l.length := by omega
      subst hi'
      simp only [g3, g10, g11, h1, go_sem, Nat.reduceEqDiff, Nat.reduceLT]
      have hc : numC l l.length = ((l.map Lib.itoa).map FV.str).map .c := by
        simp only [numC, List.take_length, Nat.sub_self, List.replicate_zero, List.append_nil, List.map_map]
        rfl
      have hlen : ((l.map Lib.itoa).map FV.str).length = l.length := by simp
      refine ends_fwd_row hF hB ag9 sz9 (by rw [hc]; exact allPure_c _) (by rw [numC_length l _ (Nat.le_refl _)]; omega) (fun _ => rfl) (Nat.le_refl _) ⟨?_, rfl⟩
      rw [List.drop_zero]
      have := unflat_plain ((l.map Lib.itoa).map FV.str)
      rw [hlen] at this
      rw [this]
  · exact ⟨0, _, rfl, Nat.zero_le _, (Fwd.refl hS).new _, Nat.lt_succ_self _, by rw [St.get_new, if_pos rfl]; simp [numC], fun h => decide_eq_false (by omega), rfl, by simp only [go_sem, ne_up1, ne_up2], by simp only [go_sem, ne_up1], by simp only [go_sem, Int.cast_ofNat_Int]⟩
theorem wc30r {S : St} {b : Nat} {w : List UInt8} (hk : S.known = KN m) (h : Wr wb bs S) (l : List Int) {ro n : Nat} {full : Bool} (hb : S.get b = some (.blk (l.map i64) ro 3)) (hx : n = l.length) (hi : ∀ n ∈ l, I64 n) (hn : l.length ≤ 1000000000) (hl : bs.length + ((jw (w :: l.map Lib.itoa)).length + 1) ≤ maxLenA) :
    WC Tryz.prog 30 [.ref wb 0, str w, .sl b 0 n 1 full] (WrIs wb (bs ++ (jw (w :: l.map Lib.itoa) ++ [10])) (.tup []) (S.put b .dead)) S := by
  subst hx
  have hb' : S.get b = some (.blk ((l.map intV).map .c) ro 3) := by rw [hb, List.map_map]; rfl
  have hf := frz_plain ag3 sz3 hb'
  rw [List.length_map] at hf
  exact wc_frz (k := 2) hf rfl rfl (wc30 (S := S.put b .dead) hk (h.put hb (by decide) (by decide) _) l hi hn hl)
theorem num_i64 {n : Int} (h : Num n) : I64 n := ⟨by have := h.1; omega, by have := h.2; omega⟩
theorem HC.row (h : HC m wb S L bs T) {cs : List AV} {ro : Nat} {U : TypeId} (h5 : U ≠ 5) (h59 : U ≠ 59) (o' : Ob) : HC m wb S L bs ((T.new (.blk cs ro U)).put T.next o') := by
  have hg : (T.new (.blk cs ro U)).get T.next = some (.blk cs ro U) := by rw [St.get_new]; exact if_pos rfl
  refine ⟨wf_put (wf_new h.wf) (Nat.lt_succ_self _), (h.wr.new h.wf _).put hg h59 h5 _, (h.keep.new h.swf h.wb_lt _).putN h.swf h.wb_lt h.keep.next _, h.wb_lt, h.swf, h.kn, fun p hp => ?_⟩
  obtain ⟨h1, h2⟩ := h.at_ p hp
  have := h.wf _ _ h1
  exact ⟨by rw [St.get_put, if_neg (by omega), St.get_new, if_neg (by omega)]; exact h1, h2⟩
theorem wc_line {K : CX → St → Prop} (hc : HC m wb S L bs T) (xs : List (List UInt8)) {b n : Nat} {full : Bool} {T0 : St} (hl : bs.length + ((jw xs).length + 1) ≤ maxLenA) (hN : xs.length ≤ maxLenA) (hb : b = T.next) (hn : n = xs.length)
    (ho : T0 = T.new (.blk (xs.map strC) 0 9)) (k : ∀ T', HC m wb S L (bs ++ (jw xs ++ [10])) T' → K (.ret (.tup [])) T') : WC Tryz.prog 16 [.ref wb 0, .sl b 0 n 1 full] K T0 := by
  subst hb; subst ho
  exact wc_hc (hc.row (by decide) (by decide) .dead) (wc16r (hc.tmp _).wr xs (by rw [St.get_new]; exact if_pos rfl) hn hl hN) k
theorem wc_wordsr {K : CX → St → Prop} {w : List UInt8} (hc : HC m wb S L bs T) (l : List Int) {b n : Nat} {full : Bool} {T0 : St} (hi : ∀ n ∈ l, I64 n) (hN : l.length ≤ 1000000000) (hl : bs.length + ((jw (w :: l.map Lib.itoa)).length + 1) ≤ maxLenA)
    (hb : b = T.next) (hn : n = l.length) (ho : T0 = T.new (.blk (l.map i64) 0 3)) (k : ∀ T', HC m wb S L (bs ++ (jw (w :: l.map Lib.itoa) ++ [10])) T' → K (.ret (.tup [])) T') : WC Tryz.prog 30 [.ref wb 0, str w, .sl b 0 n 1 full] K T0 := by
  subst hb; subst ho
  exact wc_hc (hc.row (by decide) (by decide) .dead) (wc30r (hc.tmp _).known (hc.tmp _).wr l (by rw [St.get_new]; exact if_pos rfl) hn hi hN hl) k
theorem wc_words {K : CX → St → Prop} {w : List UInt8} (hc : HC m wb S L bs T) (l : List Int) (hi : ∀ n ∈ l, I64 n) (hN : l.length ≤ 1000000000) (hl : bs.length + ((jw (w :: l.map Lib.itoa)).length + 1) ≤ maxLenA)
    (k : ∀ T', HC m wb S L (bs ++ (jw (w :: l.map Lib.itoa) ++ [10])) T' → K (.ret (.tup [])) T') : WC Tryz.prog 30 [.ref wb 0, str w, .c (intsV l)] K T :=
  wc_hc hc (wc30 hc.known hc.wr l hi hN hl) k
theorem put_new1 (S : St) (a o o' : Ob) : ((S.new a).new o).put (S.next + 1) o' = (S.new a).new o' := Abs.put_new (S.new a) o o'
theorem jw_one (x : List UInt8) : jw [x] = x := Lib.join_one x _
theorem HC.kill (h : HC m wb S L bs T) {b : Nat} {cs : List AV} {ro : Nat} {U : TypeId} (hg : T.get b = some (.blk cs ro U)) (h5 : U ≠ 5) (h59 : U ≠ 59) (hb : S.next ≤ b) (hL : ∀ p ∈ L, p.1 ≠ b) (o' : Ob) : HC m wb S L bs (T.put b o') := by
  refine ⟨wf_put h.wf (h.wf _ _ hg), h.wr.put hg h59 h5 _, h.keep.putN h.swf h.wb_lt hb _, h.wb_lt, h.swf, h.kn, fun p hp => ?_⟩
  obtain ⟨h1, h2⟩ := h.at_ p hp
  exact ⟨by rw [St.get_put, if_neg (fun e => hL p hp e.symm)]; exact h1, h2⟩
def growW {α : Type} (w0 : List (List UInt8)) (f : α → List UInt8) (l : List α) (i : Nat) : List (List UInt8) := w0 ++ (l.take i).map f
theorem growW_length {α : Type} (w0 : List (List UInt8)) (f : α → List UInt8) (l : List α) {i : Nat} (h : i ≤ l.length) : (growW w0 f l i).length = w0.length + i := by
  simp [growW]; omega
theorem growW_step {α : Type} (w0 : List (List UInt8)) (f : α → List UInt8) (l : List α) {i : Nat} (h : i < l.length) : growW w0 f l i ++ [f l[i]] = growW w0 f l (i + 1) := by
  unfold growW
  have : l.take (i + 1) = l.take i ++ [l[i]] := by rw [List.take_add_one]; simp [h]
  rw [this, List.map_append, List.append_assoc]
  rfl
theorem growW_zero {α : Type} (w0 : List (List UInt8)) (f : α → List UInt8) (l : List α) : growW w0 f l 0 = w0 := by simp [growW]
theorem growW_all {α : Type} (w0 : List (List UInt8)) (f : α → List UInt8) (l : List α) : growW w0 f l l.length = w0 ++ l.map f := by simp [growW]
structure GrowAt (m : Int) (wb : Nat) (S : St) (L : List (Nat × Ob)) (bs : List UInt8) (ws : List (List UInt8)) (b : Nat) (T : St) : Prop where
  hc : HC m wb S L bs T
  ge : S.next ≤ b
  apart : ∀ p ∈ L, p.1 ≠ b
  get : T.get b = some (.blk (ws.map strC) 0 9)
theorem GrowAt.start (hc : HC m wb S L bs T) (ws : List (List UInt8)) : GrowAt m wb S L bs ws T.next (T.new (.blk (ws.map strC) 0 9)) :=
  ⟨hc.tmp _, hc.keep.next, fun p hp e => by have := hc.wf _ _ (hc.at_ p hp).1; omega, by rw [St.get_new]; exact if_pos rfl⟩
theorem GrowAt.tmp {ws : List (List UInt8)} {b : Nat} (h : GrowAt m wb S L bs ws b T) (o : Ob) : GrowAt m wb S L bs ws b (T.new o) := by
  have := h.hc.wf _ _ h.get
  exact ⟨h.hc.tmp o, h.ge, h.apart, by rw [St.get_new, if_neg (by omega)]; exact h.get⟩
theorem GrowAt.grow {ws : List (List UInt8)} {b : Nat} (h : GrowAt m wb S L bs ws b T) (w : List UInt8) : GrowAt m wb S L bs (ws ++ [w]) T.next (T.new (.blk (ws.map strC ++ [strC w]) 0 9)) :=
  ⟨h.hc.tmp _, h.hc.keep.next, fun p hp e => by have := h.hc.wf _ _ (h.hc.at_ p hp).1; omega, by rw [St.get_new, List.map_append]; exact if_pos rfl⟩
theorem GrowAt.dead {ws : List (List UInt8)} {b : Nat} (h : GrowAt m wb S L bs ws b T) (w : List UInt8) : GrowAt m wb S L bs (ws ++ [w]) T.next ((T.put b .dead).new (.blk (ws.map strC ++ [strC w]) 0 9)) :=
  ⟨(h.hc.kill h.get (by decide) (by decide) h.ge h.apart _).tmp _, h.hc.keep.next, fun p hp e => by have := h.hc.wf _ _ (h.hc.at_ p hp).1; omega, by rw [St.get_new, List.map_append]; exact if_pos rfl⟩
theorem GrowAt.line {ws : List (List UInt8)} {b n : Nat} {full : Bool} {K : CX → St → Prop} (h : GrowAt m wb S L bs ws b T) (hn : n = ws.length) (hl : bs.length + ((jw ws).length + 1) ≤ maxLenA) (hN : ws.length ≤ maxLenA)
    (k : ∀ T', HC m wb S L (bs ++ (jw ws ++ [10])) T' → K (.ret (.tup [])) T') : WC Tryz.prog 16 [.ref wb 0, .sl b 0 n 1 full] K T :=
  wc_hc (h.hc.kill h.get (by decide) (by decide) h.ge h.apart .dead) (wc16r h.hc.wr ws h.get hn hl hN) k
theorem wc12 (s : SongV) (g : Tx.Good s) {S : St} (hk : S.known = KN m) (h : Wr wb bs S) (hl : bs.length + (Tx.flat (headL s)).length ≤ maxLenA) (hp : s.pans.length ≤ 1000000000) :
    WC Tryz.prog 12 [.ref wb 0, .c (songV s)] (WrIs wb (bs ++ Tx.flat (headL s)) (.tup []) S) S := by
  obtain ⟨n, b, hq⟩ := qk_ex s
  have hl' := hl
  simp only [Tx.flat, headL, List.flatMap_cons, List.flatMap_nil, List.length_append, List.length_cons, List.length_nil, List.map_cons, List.map_nil] at hl'
  refine wc_fn (fn := Tryz.f12) (N := 80) (rs := []) (by rfl) (by kernel_rfl) (by rfl) (by rfl) (by rfl) (by rfl) fun hS => ?_
  have hc := (HC.start h hS hk).box (songA s) 0 27 (by decide) (by decide)
  simp only [go_sem, ne_dn1, Nat.reduceAdd, Nat.reduceLT]
  refine wc_is (wc28' _ _) ?_
  rw [hq]
  simp only [put_new1, go_sem, ne_up1, ne_dn1, ne_up3, ne_up4, ne_up5, Nat.reduceAdd, Nat.reduceMul, Nat.reduceEqDiff, Nat.reduceLT, Nat.reduceLeDiff]
  have hc := hc.box ((qkC s n b).map .c) 0 82 (by decide) (by decide)
  refine wc_line hc [wOrch1] (by simp only [jw_one, List.length_cons, List.length_nil, List.map_cons, List.map_nil, wOrch1, wName, wDialect, wChannels, wPlay, wPans, wOrders] at *; omega) (by simp [maxLenA]) (by rfl) (by rfl) (by rfl) fun T hc => ?_
  have m1 : (S.next, Ob.blk (songA s) 0 27) ∈ [(S.next + 1, Ob.blk ((qkC s n b).map .c) 0 82), (S.next, .blk (songA s) 0 27)] := by simp
  have m2 : (S.next + 1, Ob.blk ((qkC s n b).map .c) 0 82) ∈ [(S.next + 1, Ob.blk ((qkC s n b).map .c) 0 82), (S.next, .blk (songA s) 0 27)] := by simp
  have e1 := hc.get m1
  have e2 := hc.get m2
  have n1 := hc.ne m1
  have n2 := hc.ne m2
  simp only [e1, go_sem, ne_up1, ne_up2, ne_up3, ne_up4, ne_up5, ne_up6, Nat.reduceAdd, Nat.reduceEqDiff, Nat.reduceLT]
  refine wc_is (wc29 hc.known _ (by have := g.name.1; omega)) ?_
  simp only [go_sem, ne_up1, ne_up2, ne_up3, ne_up4, Nat.reduceAdd, Nat.reduceMul, Nat.reduceLT, Nat.reduceLeDiff]
  refine wc_line hc [wName, Tx.quoted s.name] (by simp only [List.length_append, jw_one, List.length_cons, List.length_nil, List.map_cons, List.map_nil, wOrch1, wName, wDialect, wChannels, wPlay, wPans, wOrders] at *; omega) (by simp [maxLenA]) (by rfl) (by rfl) (by rfl) fun T hc => ?_
  have e1 := hc.get m1
  have e2 := hc.get m2
  have n1 := hc.ne m1
  have n2 := hc.ne m2
  simp only [e2, go_sem, ne_up1, ne_up2, ne_up3, ne_up4, ne_up5, Nat.reduceAdd, Nat.reduceMul, Nat.reduceEqDiff, Nat.reduceLT, Nat.reduceLeDiff]
  refine wc_line hc [wDialect, dname s.dialect] (by simp only [List.length_append, jw_one, List.length_cons, List.length_nil, List.map_cons, List.map_nil, wOrch1, wName, wDialect, wChannels, wPlay, wPans, wOrders] at *; omega) (by simp [maxLenA]) (by rfl) (by rfl) (by rfl) fun T hc => ?_
  have e1 := hc.get m1
  have e2 := hc.get m2
  have n1 := hc.ne m1
  have n2 := hc.ne m2
  simp only [e1, go_sem, ne_up1, ne_up2, ne_up3, ne_up4, ne_up5, ne_up6, Nat.reduceAdd, Nat.reduceMul, Nat.reduceEqDiff, Nat.reduceLT, Nat.reduceLeDiff]
  refine wc_wordsr hc [s.channels] (fun k hk => by
    rw [List.mem_singleton.1 hk]; exact ⟨by have := g.channels; omega, by have := g.channels; omega⟩) (by simp) (by simp only [List.length_append, jw_one, List.length_cons, List.length_nil, List.map_cons, List.map_nil, wOrch1, wName, wDialect, wChannels, wPlay, wPans, wOrders] at *; omega) (by rfl) (by rfl) (by rfl) fun T hc => ?_
  have e1 := hc.get m1
  have e2 := hc.get m2
  have n1 := hc.ne m1
  have n2 := hc.ne m2
  simp only [go_sem]
  refine wdraw_plan ch12x6 pp12x6 (by kernel_rfl) (by kernel_rfl) (by kernel_rfl) ?_
  simp only [e1, go_sem, ne_up1, ne_up2, ne_up3, ne_up4, ne_up5, ne_up6, Nat.reduceAdd, Nat.reduceEqDiff, Nat.reduceLT]
  refine ⟨_, wc31 _ _, ?_⟩
  simp only [e1, n1, go_sem, ne_up1, ne_up2, ne_up3, ne_up4, ne_up5, ne_up6, Option.some.injEq, Nat.reduceAdd, Nat.reduceMul, Nat.reduceEqDiff, Nat.reduceLT, Nat.reduceLeDiff]
  refine wc_wordsr hc [s.speed, s.tempo, s.global, bN s.linear, s.restart] (fun k hk => by
    simp only [List.mem_cons, List.not_mem_nil, or_false] at hk
    rcases hk with rfl | rfl | rfl | rfl | rfl
    · exact num_i64 (g.nums _ (by simp))
    · exact num_i64 (g.nums _ (by simp))
    · exact num_i64 (g.nums _ (by simp))
    · exact num_i64 (num_bool _)
    · exact num_i64 (g.nums _ (by simp))) (by simp) (by simp only [List.length_append, jw_one, List.length_cons, List.length_nil, List.map_cons, List.map_nil, wOrch1, wName, wDialect, wChannels, wPlay, wPans, wOrders] at *; omega) (by rfl) (by rfl) (by rfl) fun T hc => ?_
  have e1 := hc.get m1
  have e2 := hc.get m2
  have n1 := hc.ne m1
  have n2 := hc.ne m2
  simp only [e1, go_sem, ne_up1, ne_up2, ne_up3, ne_up4, ne_up5, ne_up6, Option.some.injEq, Nat.reduceAdd, Nat.reduceEqDiff, Nat.reduceLT]
  refine wc_words hc s.pans (fun k hk => num_i64 (g.pans k hk)) hp (by simp only [List.length_append, jw_one, List.length_cons, List.length_nil, List.map_cons, List.map_nil, wOrch1, wName, wDialect, wChannels, wPlay, wPans, wOrders] at *; omega) fun T hc => ?_
  have e1 := hc.get m1
  have e2 := hc.get m2
  have n1 := hc.ne m1
  have n2 := hc.ne m2
  simp only [e1, n1, List.length_map, go_sem, ne_up1, ne_up2, ne_up3, ne_up6, Nat.reduceAdd, Nat.reduceMul, Nat.reduceEqDiff, Nat.reduceLT, Nat.reduceLeDiff]
  have hgr := GrowAt.start hc [wOrders]
  have hl6 : (bs ++ (jw [wOrch1] ++ [10]) ++ (jw [wName, Tx.quoted s.name] ++ [10]) ++ (jw [wDialect, dname s.dialect] ++ [10]) ++ (jw (wChannels :: List.map Lib.itoa [s.channels]) ++ [10]) ++ (jw (wPlay :: List.map Lib.itoa [s.speed, s.tempo, s.global, bN s.linear, s.restart]) ++ [10]) ++ (jw (wPans :: List.map Lib.itoa s.pans) ++ [10])).length + ((jw (wOrders :: s.orders.map ordT)).length + 1) ≤ maxLenA := (by simp only [List.length_append, jw_one, List.length_cons, List.length_nil, List.map_cons, List.map_nil, wOrch1, wName, wDialect, wChannels, wPlay, wPans, wOrders] at *; omega)
  have hend : bs ++ (jw [wOrch1] ++ [10]) ++ (jw [wName, Tx.quoted s.name] ++ [10]) ++ (jw [wDialect, dname s.dialect] ++ [10]) ++ (jw (wChannels :: List.map Lib.itoa [s.channels]) ++ [10]) ++ (jw (wPlay :: List.map Lib.itoa [s.speed, s.tempo, s.global, bN s.linear, s.restart]) ++ [10]) ++ (jw (wPans :: List.map Lib.itoa s.pans) ++ [10]) ++ (jw (wOrders :: s.orders.map ordT) ++ [10]) = bs ++ Tx.flat (headL s) := by
    simp [Tx.flat, headL, jw_one]
  have hc6 : HC m wb S [(S.next + 1, Ob.blk ((qkC s n b).map .c) 0 82), (S.next, .blk (songA s) 0 27)] (bs ++ (jw [wOrch1] ++ [10]) ++ (jw [wName, Tx.quoted s.name] ++ [10]) ++ (jw [wDialect, dname s.dialect] ++ [10]) ++ (jw (wChannels :: List.map Lib.itoa [s.channels]) ++ [10]) ++ (jw (wPlay :: List.map Lib.itoa [s.speed, s.tempo, s.global, bN s.linear, s.restart]) ++ [10]) ++ (jw (wPans :: List.map Lib.itoa s.pans) ++ [10])) T := hc
  generalize bs ++ (jw [wOrch1] ++ [10]) ++ (jw [wName, Tx.quoted s.name] ++ [10]) ++ (jw [wDialect, dname s.dialect] ++ [10]) ++ (jw (wChannels :: List.map Lib.itoa [s.channels]) ++ [10]) ++ (jw (wPlay :: List.map Lib.itoa [s.speed, s.tempo, s.global, bN s.linear, s.restart]) ++ [10]) ++ (jw (wPans :: List.map Lib.itoa s.pans) ++ [10]) = bs6 at hc6 hl6 hend
  refine wloop_meas (fun m' e S' => ∃ (i x : Nat) (full : Bool), m' = s.orders.length - i ∧ i ≤ s.orders.length ∧ GrowAt m wb S [(S.next + 1, Ob.blk ((qkC s n b).map .c) 0 82), (S.next, .blk (songA s) 0 27)] bs6 (growW [wOrders] ordT s.orders i) x S' ∧
    e.get 0 = .ref wb 0 ∧ e.get 6 = .sl x 0 (i + 1) 1 full ∧ e.get 54 = .c (intsV s.orders) ∧ e.get 55 = i64 s.orders.length ∧ e.get 56 = i64 i) ?_ s.orders.length _ _ ?_
  · rintro m' e S' ⟨i, x, full, rfl, hi, hg, g0, g6, g54, g55, g56⟩
    have hN := g.orders.1
    rcases Nat.lt_or_ge i s.orders.length with hlt | hge
    · have h1 : ((i : Int) < (s.orders.length : Int)) := by omega
      have h2 : ¬ ((i : Int) < 0) := by omega
      have h3 : (s.orders.map intV)[i]? = some (intV s.orders[i]) := by simp [hlt]
      have hsz : allSize 1 (s.orders.map intV) = true := allSize_map (s := 1) intV (fun _ => rfl) s.orders
      have h5 := step_wrap i (by omega)
      have hx := hg.get
      have hxn : (S'.next = x) = False := eq_false (by have := hg.hc.wf _ _ hx; omega)
      have zl : ((growW [wOrders] ordT s.orders i).map strC).length = i + 1 := by rw [List.length_map, growW_length _ _ _ hi]; simp; omega
      have zt : ((growW [wOrders] ordT s.orders i).map strC).take (i + 1) = (growW [wOrders] ordT s.orders i).map strC := List.take_of_length_le (by omega)
      have z1 : (i + 1 + 1) * 16 ≤ 140737488355328 := by omega
      have z2 : ¬ (i + 1 + 1 ≤ i + 1) := by omega
      have zw := growW_step [wOrders] ordT s.orders hlt
      have hk' := hg.hc.known
      have hr : I64 s.orders[i] := num_i64 (g.orders.2 _ (List.getElem_mem hlt)).2
      generalize ho : s.orders[i] = o at *
      by_cases c1 : o = 254
      · have q1 : (o == 254) = true := by simpa using c1
        have hw : ordT o = [43] := by simp [ordT, c1]
        simp only [t9b, t9s, t9z, size_one, Option.map_some, Nat.mul_one, Nat.zero_add, Nat.zero_le, List.drop_zero, List.length_map, List.map_cons, List.map_nil, g6, g54, g55, g56, h1, h2, h3, hlt, hsz, hx, hxn, zl, zt, z1, z2, q1, Int.toNat_natCast, Nat.le_refl, go_sem, maxLenA, ne_up1, ne_up2, ne_up3, Nat.reduceSub, Nat.reduceEqDiff, Nat.reduceLT, Nat.reduceLeDiff]
        cases full with
        | true =>
          simp only [Option.map_some, g0, g54, g55, g56, h5, go_sem, ne_up1, ne_up2, ne_up3, ne_up4, ne_up5, ne_up6, Nat.reduceEqDiff, Nat.reduceLT]
          refine ⟨s.orders.length - (i + 1), by omega, i + 1, S'.next + 1, false, rfl, by omega, ?_, rfl, rfl⟩
          rw [← zw, hw]
          exact (hg.tmp (.blk [strC [43]] 0 9)).grow [43]
        | false =>
          simp only [Option.map_some, g0, g54, g55, g56, h5, go_sem, ne_up1, ne_up2, ne_up3, ne_up4, ne_up5, ne_up6, Nat.reduceEqDiff, Nat.reduceLT]
          refine ⟨s.orders.length - (i + 1), by omega, i + 1, S'.next + 1, false, rfl, by omega, ?_, rfl, rfl⟩
          rw [← zw, hw]
          exact (hg.tmp (.blk [strC [43]] 0 9)).dead [43]
      · have q1 : (o == 254) = false := by simpa using c1
        by_cases c2 : o = 255
        · have q2 : (o == 255) = true := by simpa using c2
          have hw : ordT o = [45] := by simp [ordT, c2]
          simp only [t9b, t9s, t9z, size_one, Option.map_some, Nat.mul_one, Nat.zero_add, Nat.zero_le, List.drop_zero, List.length_map, List.map_cons, List.map_nil, g6, g54, g55, g56, h1, h2, h3, hlt, hsz, hx, hxn, zl, zt, z1, z2, q1, q2, Int.toNat_natCast, Nat.le_refl, go_sem, maxLenA, ne_up1, ne_up2, ne_up3, ne_up6, Nat.reduceSub, Nat.reduceEqDiff, Nat.reduceLT, Nat.reduceLeDiff]
          cases full with
          | true =>
            simp only [Option.map_some, g0, g54, g55, g56, h5, go_sem, ne_up1, ne_up2, ne_up3, ne_up4, ne_up5, ne_up6, Nat.reduceEqDiff, Nat.reduceLT]
            refine ⟨s.orders.length - (i + 1), by omega, i + 1, S'.next + 1, false, rfl, by omega, ?_, rfl, rfl⟩
            rw [← zw, hw]
            exact (hg.tmp (.blk [strC [45]] 0 9)).grow [45]
          | false =>
            simp only [Option.map_some, g0, g54, g55, g56, h5, go_sem, ne_up1, ne_up2, ne_up3, ne_up4, ne_up5, ne_up6, Nat.reduceEqDiff, Nat.reduceLT]
            refine ⟨s.orders.length - (i + 1), by omega, i + 1, S'.next + 1, false, rfl, by omega, ?_, rfl, rfl⟩
            rw [← zw, hw]
            exact (hg.tmp (.blk [strC [45]] 0 9)).dead [45]
        · have q2 : (o == 255) = false := by simpa using c2
          have hw : ordT o = Lib.itoa o := by simp [ordT, c1, c2]
          simp only [Option.map_some, List.length_map, List.map_cons, List.map_nil, g6, g54, g55, g56, h1, h2, h3, hlt, hsz, q1, q2, Int.toNat_natCast, go_sem, ne_up1, ne_up2, ne_up3, ne_up6, Nat.reduceEqDiff, Nat.reduceLT]
          refine wc_is (wc32 hk' _ hr.1 hr.2) ?_
          simp only [t9b, t9s, t9z, size_one, Option.map_some, Nat.mul_one, Nat.zero_add, Nat.zero_le, List.drop_zero, List.map_cons, List.map_nil, hx, hxn, zl, zt, z1, z2, Nat.le_refl, go_sem, maxLenA, ne_up1, ne_up2, ne_up3, Nat.reduceSub, Nat.reduceEqDiff, Nat.reduceLT, Nat.reduceLeDiff]
          cases full with
          | true =>
            simp only [Option.map_some, g0, g54, g55, g56, h5, go_sem, ne_up1, ne_up2, ne_up3, ne_up4, ne_up5, ne_up6, Nat.reduceEqDiff, Nat.reduceLT]
            refine ⟨s.orders.length - (i + 1), by omega, i + 1, S'.next + 1, false, rfl, by omega, ?_, rfl, rfl⟩
            rw [← zw, hw]
            exact (hg.tmp (.blk [strC (Lib.itoa o)] 0 9)).grow (Lib.itoa o)
          | false =>
            simp only [Option.map_some, g0, g54, g55, g56, h5, go_sem, ne_up1, ne_up2, ne_up3, ne_up4, ne_up5, ne_up6, Nat.reduceEqDiff, Nat.reduceLT]
            refine ⟨s.orders.length - (i + 1), by omega, i + 1, S'.next + 1, false, rfl, by omega, ?_, rfl, rfl⟩
            rw [← zw, hw]
            exact (hg.tmp (.blk [strC (Lib.itoa o)] 0 9)).dead (Lib.itoa o)
    · have h1 : ¬ ((i : Int) < (s.orders.length : Int)) := by omega
      have hi' : i = s.orders.length := by omega
      subst hi'
      rw [growW_all] at hg
      simp only [g0, g6, g55, g56, h1, go_sem, ne_up1, Nat.reduceEqDiff, Nat.reduceLT]
      refine hg.line (by simp <;> omega) hl6 (by simp [maxLenA]; omega) fun T hc => ?_
      simp only [go_sem]
      exact ends_now ⟨rfl, by rw [← hend]; exact hc.wr, hc.keep⟩
  · refine ⟨0, T.next, true, rfl, Nat.zero_le _, ?_, by simp only [go_sem, ne_up3, ne_up4, ne_up5, ne_up6, Nat.reduceEqDiff], by simp only [go_sem, Nat.reduceAdd, Nat.reduceEqDiff], by simp only [go_sem, ne_up1, ne_up2], by simp only [go_sem, ne_up1], by simp only [go_sem, Int.cast_ofNat_Int]⟩
    rw [growW_zero]
    exact GrowAt.start hc6 [wOrders]
end Go.Proofs.YtgjnimemofmncaaGreatDoor

namespace Go.Proofs.YtgjnimemofmncaaGreatDoor
open Go.Abs Go.Tx
set_option maxHeartbeats 2000000
set_option maxRecDepth 20000
variable {m : Int} {wb : Nat} {S T T' : St} {L : List (Nat × Ob)} {bs bs' : List UInt8}
def GrowN (m : Int) (wb : Nat) (S : St) (L : List (Nat × Ob)) (bs : List UInt8) (ws : List (List UInt8)) (v : AV) (T : St) : Prop :=
  HC m wb S L bs T ∧ ((ws = [] ∧ v = .c .nils) ∨ ∃ b, v = .sl b 0 ws.length 1 false ∧ 0 < ws.length ∧ GrowAt m wb S L bs ws b T)
theorem rows_split (c : Nat) {k : Nat} (l : List C6) : rowsL c (k + 1) l = rowL (l.take c) :: rowsL c k (l.drop c) := rfl
theorem wc13 (p : PatV) (c : Nat) (hc1 : 1 ≤ c) (hc2 : c ≤ 16) (g : GoodP c p) {S : St} (hk : S.known = KN m) (h : Wr wb bs S) (hl : bs.length + (Tx.flat (patL c p)).length ≤ maxLenA) :
    WC Tryz.prog 13 [.ref wb 0, .c (patV p), i64 c] (WrIs wb (bs ++ Tx.flat (patL c p)) (.tup []) S) S := by
  obtain ⟨rows, cells⟩ := p
  obtain ⟨g1, g2, g3, g4⟩ := g
  obtain ⟨k, rfl⟩ := Int.eq_ofNat_of_zero_le g1
  simp only [Int.toNat_natCast] at g2 g3 g4 hl ⊢
  have hsz : allSize 6 (cells.map cellV) = true := allSize_map (s := 6) cellV (fun _ => rfl) cells
  have hfl : Tx.flat (patL c ⟨k, cells⟩) = jw (wPattern :: [(k : Int)].map Lib.itoa) ++ [10] ++ Tx.flat (rowsL c k cells) := flat_cons _ _
  have hl' : bs.length + ((jw (wPattern :: [(k : Int)].map Lib.itoa)).length + 1 + (Tx.flat (rowsL c k cells)).length) ≤ maxLenA := by
    rw [hfl] at hl
    simp only [List.length_append, List.length_cons, List.length_nil] at hl
    omega
  have hend : bs ++ (jw (wPattern :: [(k : Int)].map Lib.itoa) ++ [10]) ++ Tx.flat (rowsL c k cells) = bs ++ Tx.flat (patL c ⟨k, cells⟩) := by
    rw [hfl]; simp
  have hcl : cells.length ≤ 1024 := by rw [g3]; exact Nat.mul_le_mul (show k ≤ 64 by omega) hc2
  refine wc_fn (fn := Tryz.f13) (N := 53) (rs := []) (by rfl) (by kernel_rfl) (by rfl) (by rfl) (by rfl) (by rfl) fun hS => ?_
  have hcx := (HC.start h hS hk).box [i64 k, .c (.sl (cells.map cellV))] 0 46 (by decide) (by decide)
  simp only [go_sem, ne_up1, ne_dn1, ne_up2, ne_up3, ne_up4, Nat.reduceAdd, Nat.reduceMul, Nat.reduceEqDiff, Nat.reduceLT, Nat.reduceLeDiff]
  refine wc_wordsr hcx [(k : Int)] (fun x hx => by rw [List.mem_singleton.1 hx]; exact ⟨by omega, by omega⟩) (by simp) (by show bs.length + ((jw (wPattern :: [(k : Int)].map Lib.itoa)).length + 1) ≤ maxLenA; omega) (by rfl) (by rfl) (by rfl) fun T hcx => ?_
  have m1 : (S.next, Ob.blk [i64 k, .c (.sl (cells.map cellV))] 0 46) ∈ [(S.next, Ob.blk [i64 k, .c (.sl (cells.map cellV))] 0 46)] := by simp
  have hc : HC m wb S [(S.next, Ob.blk [i64 k, .c (.sl (cells.map cellV))] 0 46)] (bs ++ (jw (wPattern :: [(k : Int)].map Lib.itoa) ++ [10])) T := hcx
  have hlb : (bs ++ (jw (wPattern :: [(k : Int)].map Lib.itoa) ++ [10])).length + (Tx.flat (rowsL c k cells)).length ≤ maxLenA := by
    simp only [List.length_append, List.length_cons, List.length_nil]; omega
  generalize bs ++ (jw (wPattern :: [(k : Int)].map Lib.itoa) ++ [10]) = b0 at hc hend hlb
  rw [← hend]
  have e1 := hc.get m1
  have n1 := hc.ne m1
  simp only [e1, go_sem, Nat.reduceAdd, Nat.reduceEqDiff, Nat.reduceLT]
  refine wloop_meas (fun m' e S' => ∃ (r : Nat) (br : List UInt8), m' = k - r ∧ r ≤ k ∧ HC m wb S [(S.next, Ob.blk [i64 k, .c (.sl (cells.map cellV))] 0 46)] br S' ∧
    br ++ Tx.flat (rowsL c (k - r) (cells.drop (r * c))) = b0 ++ Tx.flat (rowsL c k cells) ∧
    e.get 0 = .ref wb 0 ∧ e.get 2 = i64 c ∧ e.get 4 = .ref S.next 0 ∧ e.get 18 = i64 k ∧ e.get 19 = i64 r) ?_ k _ _ ?_
  · rintro m' e S' ⟨r, br, rfl, hr, hc, hbr, g0, g2', g4', g18, g19⟩
    have e1 := hc.get m1
    have n1 := hc.ne m1
    rcases Nat.lt_or_ge r k with hlt | hge
    · have h1 : ((r : Int) < (k : Int)) := by omega
      have h5 := step_wrap r (by omega)
      have hrc : r * c + c ≤ cells.length := by
        have : (r + 1) * c ≤ k * c := Nat.mul_le_mul_right _ (by omega)
        rw [Nat.add_mul] at this; omega
      have hm1 : IntKind.i64.wrap ((r : Int) * (c : Int)) = ((r * c : Nat) : Int) := by
        rw [← Int.natCast_mul, wrap_i64 _ (by omega) (by omega)]
      have hm2 : IntKind.i64.wrap (((r + 1 : Nat) : Int) * (c : Int)) = (((r + 1) * c : Nat) : Int) := by
        rw [← Int.natCast_mul, wrap_i64 _ (by omega) (by rw [Nat.add_mul]; omega)]
      have q1 : (0 : Int) ≤ ((r * c : Nat) : Int) := by omega
      have q2 : (0 : Int) ≤ (((r + 1) * c : Nat) : Int) := by omega
      have q3 : r * c ≤ (r + 1) * c := Nat.mul_le_mul_right _ (by omega)
      have q4 : (r + 1) * c ≤ cells.length := by rw [Nat.add_mul]; omega
      have hrow : List.drop (r * c) (List.take ((r + 1) * c) (cells.map cellV)) = ((cells.drop (r * c)).take c).map cellV := by
        rw [← List.map_take, ← List.map_drop, List.drop_take]
        congr 2
        rw [Nat.add_mul]; omega
      simp only [g2', g4', g18, g19, e1, h1, h5, hm1, hm2, q1, q2, q3, q4, hsz, hrow, Int.toNat_natCast, List.length_map, go_sem, ne_up1, ne_up2, ne_up3, ne_up4, ne_up5, ne_up6, Nat.reduceAdd, Nat.reduceEqDiff, Nat.reduceLT]
      have hsplit : Tx.flat (rowsL c (k - r) (cells.drop (r * c))) = rowL ((cells.drop (r * c)).take c) ++ [10] ++ Tx.flat (rowsL c (k - (r + 1)) (cells.drop ((r + 1) * c))) := by
        have : k - r = k - (r + 1) + 1 := by omega
        rw [this, rows_split, flat_cons, List.drop_drop, Nat.add_mul, Nat.one_mul]
      have hrl : ((cells.drop (r * c)).take c).length = c := by rw [List.length_take, List.length_drop]; omega
      have hrv : ∀ x ∈ (cells.drop (r * c)).take c, x.valid = true := fun x hx => g4 x (List.mem_of_mem_drop (List.mem_of_mem_take hx))
      generalize (cells.drop (r * c)).take c = row at *
      have hrs : allSize 6 (row.map cellV) = true := allSize_map (s := 6) cellV (fun _ => rfl) row
      refine wloop_meas (fun m' e S' => ∃ (i : Nat) (v : AV), m' = c - i ∧ i ≤ c ∧ GrowN m wb S [(S.next, Ob.blk [i64 k, .c (.sl (cells.map cellV))] 0 46)] br (growW [] C6.text row i) v S' ∧
        e.get 0 = .ref wb 0 ∧ e.get 2 = i64 c ∧ e.get 4 = .ref S.next 0 ∧ e.get 18 = i64 k ∧ e.get 19 = i64 r ∧ e.get 7 = v ∧ e.get 31 = .c (.sl (row.map cellV)) ∧ e.get 32 = i64 c ∧ e.get 33 = i64 i) ?_ c _ _ ?_
      · rintro m' e S' ⟨i, v, rfl, hi, hgr, g0, g2', g4', g18, g19, g7, g31, g32, g33⟩
        have hgl : (growW [] C6.text row i).length = i := by rw [growW_length _ _ _ (by omega)]; simp
        rcases Nat.lt_or_ge i c with hlti | hgei
        · have hlti' : i < row.length := by omega
          have h1i : ((i : Int) < (c : Int)) := by omega
          have h2i : ¬ ((i : Int) < 0) := by omega
          have h3i : (row.map cellV)[i]? = some (cellV row[i]) := by simp [hlti']
          have h5i := step_wrap i (by omega)
          have zw := growW_step [] C6.text row hlti'
          have hvi : row[i].valid = true := hrv _ (List.getElem_mem hlti')
          generalize hci : row[i] = ci at *
          have hvi' : (validC ci.1 ci.2.1 ci.2.2.1 ci.2.2.2.1 ci.2.2.2.2.1 ci.2.2.2.2.2 = true) = True := eq_true hvi
          have htx : cellT ci.1 ci.2.1 ci.2.2.1 ci.2.2.2.1 ci.2.2.2.2.1 ci.2.2.2.2.2 = ci.text := rfl
          obtain ⟨hc, hg⟩ := hgr
          simp only [g31, g32, g33, h1i, h2i, h3i, hlti', hrs, List.length_map, Int.toNat_natCast, Option.map_some, go_sem, put_new, ne_up1, ne_up3, Nat.reduceAdd, Nat.reduceEqDiff, Nat.reduceLT, Nat.reduceLeDiff]
          refine wc_is (wc33 _ _ _ _ _ _ _) ?_
          rcases hg with ⟨hw0, rfl⟩ | ⟨x, rfl, hpos, hgat⟩
          · have hi0 : i = 0 := by rw [hw0] at hgl; simpa using hgl.symm
            simp only [t9b, t9s, t9z, size_one, Option.map_some, Nat.mul_one, Nat.zero_add, List.drop_zero, g0, g2', g4', g18, g19, g7, g31, g32, g33, hvi', htx, h5i, go_sem, maxLenA, ne_up1, ne_dn1, ne_up2, ne_up3, ne_up4, ne_up5, ne_up6, Nat.reduceMul, Nat.reduceEqDiff, Nat.reduceLT, Nat.reduceLeDiff]
            refine ⟨c - (i + 1), by omega, i + 1, .sl (S'.next + 1 + 1) 0 1 1 false, rfl, by omega, ?_, rfl, rfl⟩
            rw [← zw, hw0, List.nil_append]
            have := GrowAt.start ((hc.tmp (.blk [i64 ci.1, i64 ci.2.1, i64 ci.2.2.1, i64 ci.2.2.2.1, i64 ci.2.2.2.2.1, i64 ci.2.2.2.2.2] 0 90)).tmp (.blk [strC ci.text] 0 9)) [ci.text]
            exact ⟨this.hc, .inr ⟨_, rfl, by simp, this⟩⟩
          · have hx := hgat.get
            have hxn : (S'.next = x) = False := eq_false (by have := hc.wf _ _ hx; omega)
            have hxn2 : (S'.next + 1 = x) = False := eq_false (by have := hc.wf _ _ hx; omega)
            have zl : ((growW [] C6.text row i).map strC).length = i := by rw [List.length_map]; exact hgl
            have zt : ((growW [] C6.text row i).map strC).take i = (growW [] C6.text row i).map strC := List.take_of_length_le (by omega)
            have z1 : (i + 1) * 16 ≤ 140737488355328 := by omega
            have z2 : ¬ (i + 1 ≤ i) := by omega
            simp only [t9b, t9s, t9z, size_one, Option.map_some, Nat.mul_one, Nat.zero_add, Nat.zero_le, List.drop_zero, g0, g2', g4', g18, g19, g7, g31, g32, g33, hvi', htx, h5i, hx, hxn, hxn2, zl, zt, z1, z2, hgl, Nat.le_refl, go_sem, maxLenA, ne_up1, ne_dn1, ne_up2, ne_up3, ne_up4, ne_up5, ne_up6, Nat.reduceSub, Nat.reduceEqDiff, Nat.reduceLT, Nat.reduceLeDiff]
            refine ⟨c - (i + 1), by omega, i + 1, .sl (S'.next + 1 + 1) 0 (i + 1) 1 false, rfl, by omega, ?_, rfl, rfl⟩
            have := ((hgat.tmp (.blk [i64 ci.1, i64 ci.2.1, i64 ci.2.2.1, i64 ci.2.2.2.1, i64 ci.2.2.2.2.1, i64 ci.2.2.2.2.2] 0 90)).tmp (.blk [strC ci.text] 0 9)).dead ci.text
            rw [← zw]
            exact ⟨this.hc, .inr ⟨S'.next + 1 + 1, by rw [List.length_append, hgl]; rfl, by simp, this⟩⟩
        · have hic : i = c := by omega
          subst hic
          have h1i : ¬ ((i : Int) < (i : Int)) := by omega
          have hall : growW [] C6.text row i = row.map C6.text := by rw [← hrl, growW_all]; rfl
          rw [hall] at hgr hgl
          obtain ⟨hc, hg⟩ := hgr
          rcases hg with ⟨hw0, rfl⟩ | ⟨x, rfl, hpos, hgat⟩
          · rw [hw0] at hgl; simp at hgl; omega
          · have e1 := hc.get m1
            have n1 := hc.ne m1
            rw [hgl] at g7
            simp only [g0, g2', g4', g18, g19, g7, g32, g33, h1i, go_sem, ne_up1, ne_up2, Nat.reduceEqDiff, Nat.reduceLT]
            have hrowlen : br.length + ((rowL row).length + 1) ≤ maxLenA := by
              have := congrArg List.length hbr
              rw [hsplit] at this
              simp only [List.length_append, List.length_cons, List.length_nil] at this
              omega
            have hj : Lib.join (row.map C6.text) [32, 124, 32] = rowL row := rfl
            have w34 := wc34 (xs := row.map C6.text) (sep := [32, 124, 32]) (off := 0) (full := false) hgat.get (fun j x hx => by
              rw [Nat.zero_add, List.getElem?_map, hx]; rfl) (by rw [hj]; simp only [maxLenA] at hrowlen; omega) (by rw [hgl]; omega) (by omega)
            rw [hgl, hj] at w34
            refine wc_is w34 ?_
            simp only [go_sem, ne_up1, ne_up2, ne_up3, Nat.reduceAdd, Nat.reduceMul, Nat.reduceLT, Nat.reduceLeDiff]
            refine wc_line hc [rowL row] (by rw [jw_one]; exact hrowlen) (by simp [maxLenA]) (by rfl) (by rfl) (by rfl) fun T hc => ?_
            simp only [g0, g2', g4', g18, g19, h5, go_sem, ne_up1, Nat.reduceEqDiff, Nat.reduceLT]
            refine ⟨k - (r + 1), by omega, r + 1, _, rfl, by omega, hc, ?_, rfl⟩
            rw [← hbr, hsplit, jw_one]
            simp
      · exact ⟨0, .c .nils, rfl, Nat.zero_le _, ⟨hc, .inl ⟨growW_zero _ _ _, rfl⟩⟩, by simp only [g0, go_sem, ne_up6, Nat.reduceEqDiff], by simp only [g2', go_sem, ne_up4, ne_up5, Nat.reduceEqDiff], by simp only [g4', go_sem, ne_up2, ne_up3, Nat.reduceEqDiff], by simp only [g18, go_sem, ne_up2, ne_up3, ne_up4, ne_up5, ne_up6, Nat.reduceEqDiff], by simp only [g19, go_sem, ne_up1, ne_up2, ne_up3, ne_up4, ne_up5, ne_up6, Nat.reduceEqDiff], by simp only [go_sem, Nat.reduceEqDiff], by simp only [go_sem, ne_up1, ne_up2], by simp only [hrl, go_sem, ne_up1], by simp only [go_sem, Int.cast_ofNat_Int]⟩
    · have h1 : ¬ ((r : Int) < (k : Int)) := by omega
      have hrk : r = k := by omega
      subst hrk
      simp only [g18, g19, h1, go_sem, Nat.reduceLT]
      refine ends_now ⟨rfl, ?_, hc.keep⟩
      have : br = b0 ++ Tx.flat (rowsL c r cells) := by rw [← hbr, Nat.sub_self]; simp [rowsL, Tx.flat]
      rw [← this]
      exact hc.wr
  · exact ⟨0, b0, rfl, Nat.zero_le _, hc, by simp, by simp only [go_sem, ne_up4, Nat.reduceEqDiff], by simp only [go_sem, ne_dn1, ne_up2, ne_dn2, Nat.reduceEqDiff], by simp only [go_sem, Nat.reduceEqDiff], by simp only [go_sem, ne_up1], by simp only [go_sem, Int.cast_ofNat_Int]⟩
end Go.Proofs.YtgjnimemofmncaaGreatDoor

namespace Go.Proofs.YtgjnimemofmncaaGreatDoor
open Go.Abs Go.Tx
set_option maxHeartbeats 2000000
set_option maxRecDepth 20000
variable {m : Int} {wb : Nat} {S T T' : St} {L : List (Nat × Ob)} {bs bs' : List UInt8}
theorem chunk_cut (l : List Int) (a : Nat) : List.drop a (List.take (min (a + 32) l.length) (l.map intV)) = ((l.drop a).take 32).map intV := by
  rw [← List.map_take, ← List.map_drop, List.drop_take]
  congr 1
  rw [List.take_eq_take_iff, List.length_drop]
  omega
theorem wc14 (x : SmpV) (g : GoodS x) {S : St} (hk : S.known = KN m) (h : Wr wb bs S) (hl : bs.length + (Tx.flat (smpL x)).length ≤ maxLenA) :
    WC Tryz.prog 14 [.ref wb 0, .c (smpV x)] (WrIs wb (bs ++ Tx.flat (smpL x)) (.tup []) S) S := by
  obtain ⟨g1, g2, g3, g4, g5⟩ := g
  have i1 : ∀ k ∈ [x.bits, x.rate, x.volume, x.pan, x.fine], I64 k := fun k hk => num_i64 (g2 k hk)
  have i2 : ∀ k ∈ [x.lp, x.start, x.stop, x.sus, x.susStart, x.susEnd], I64 k := fun k hk => num_i64 (g3 k hk)
  have hfl : Tx.flat (smpL x) = jw (wSample :: Tx.quoted x.name :: [x.bits, x.rate, x.volume, x.pan, x.fine].map Lib.itoa) ++ [10] ++ (jw (wLoops :: [x.lp, x.start, x.stop, x.sus, x.susStart, x.susEnd].map Lib.itoa) ++ [10] ++
    (jw (wData :: [(x.data.length : Int)].map Lib.itoa) ++ [10] ++ Tx.flat (chunks x.data.length x.data))) := by
    unfold smpL
    rw [flat_cons, flat_cons, flat_cons]
  generalize hout : bs ++ Tx.flat (smpL x) = out
  rw [hfl] at hl hout
  generalize htl : Tx.flat (chunks x.data.length x.data) = tl at *
  refine wc_fn (fn := Tryz.f14) (N := 65) (rs := []) (by rfl) (by kernel_rfl) (by rfl) (by rfl) (by rfl) (by rfl) fun hS => ?_
  have hc := (HC.start h hS hk).box (smpC (intsV x.data) x) 0 48 (by decide) (by decide)
  simp only [go_sem, ne_dn1, Nat.reduceAdd, Nat.reduceLT]
  have m1 : (S.next, Ob.blk (smpC (intsV x.data) x) 0 48) ∈ [(S.next, Ob.blk (smpC (intsV x.data) x) 0 48)] := by simp
  have hnm : x.name.length ≤ 1000 := by have := g1.1; omega
  refine wdraw_cut (fun e' T => HC m wb S [(S.next, Ob.blk (smpC (intsV x.data) x) 0 48)] (bs ++ (jw (wSample :: Tx.quoted x.name :: [x.bits, x.rate, x.volume, x.pan, x.fine].map Lib.itoa) ++ [10])) T ∧ e'.get 0 = .ref wb 0 ∧ e'.get 3 = .ref S.next 0) ?_ ?_
  · refine wdraw_plan ch14x1 pp14x1 (by kernel_rfl) (by kernel_rfl) (by kernel_rfl) ?_
    simp only [go_sem, ne_up2, ne_up3, Nat.reduceAdd, Nat.reduceLT]
    refine ⟨_, wc29 hc.known _ hnm, ?_⟩
    simp only [go_sem, ne_up1, ne_dn1, ne_up2, ne_dn2, ne_up3, ne_dn3, ne_up4, ne_dn4, ne_up5, ne_dn5, ne_up6, ne_dn6, Option.some.injEq, Nat.reduceAdd, Nat.reduceMul, Nat.reduceEqDiff, Nat.reduceLT, Nat.reduceLeDiff]
    refine ⟨⟨wc29 (hc.tmp _).known _ hnm, _, wc35b (l := [x.bits, x.rate, x.volume, x.pan, x.fine]) (hc.tmp _).known (by rw [St.get_new]; exact if_pos rfl) i1 (by simp), ?_⟩, wc29 ((hc.tmp _).tmp _).known _ hnm, _, wc35b (l := [x.bits, x.rate, x.volume, x.pan, x.fine]) ((hc.tmp _).tmp _).known (by rw [St.get_new]; exact if_pos rfl) i1 (by simp), ?_⟩
    · simp only [t9b, t9s, t9z, size_one, Option.map_some, Nat.mul_one, Nat.zero_add, Nat.zero_le, List.drop_zero, List.map_cons, List.map_nil, allSize, Abs.flat, go_sem, maxLenA, ne_up1, ne_dn1, ne_up2, ne_dn2, ne_up3, ne_dn3, ne_up4, ne_dn4, ne_up5, ne_dn5, ne_up6, ne_dn6, Option.some.injEq, Nat.reduceAdd, Nat.reduceSub, Nat.reduceMul, Nat.reduceEqDiff, Nat.reduceLT, Nat.reduceLeDiff]
      refine ⟨wc35b (l := [x.bits, x.rate, x.volume, x.pan, x.fine]) ((hc.tmp _).tmp _).known (by rw [St.get_new, if_neg (by simp [next_new]), St.get_new]; exact if_pos rfl) i1 (by simp), wc29 (((hc.tmp _).tmp _).tmp _).known _ hnm, ?_⟩
      refine wc_line ((hc.box ([x.bits, x.rate, x.volume, x.pan, x.fine].map i64) 0 3 (by decide) (by decide)).tmp _) (wSample :: Tx.quoted x.name :: [x.bits, x.rate, x.volume, x.pan, x.fine].map Lib.itoa) (by simp only [List.length_append, List.length_cons, List.length_nil, List.map_cons, List.map_nil, wSample, wLoops, wData] at *; omega) (by simp [maxLenA]) (by rfl) (by rfl) (by rfl) fun T hc => ?_
      have q2 := hc.get (List.mem_cons_self ..)
      have hc := hc.forget
      have e1 := hc.get m1
      have n1 := hc.ne m1
      simp only [Option.map_some, e1, go_sem, ne_up1, ne_dn1, ne_up2, ne_dn2, ne_up3, ne_dn3, ne_up4, ne_dn4, ne_up5, ne_dn5, ne_up6, ne_dn6, Option.some.injEq, Nat.reduceEqDiff]
      exact ⟨⟨wc29 hc.known _ hnm, wc35b (l := [x.bits, x.rate, x.volume, x.pan, x.fine]) hc.known q2 i1 (by simp)⟩, hc⟩
    · simp only [t9b, t9s, t9z, size_one, Option.map_some, Nat.mul_one, Nat.zero_add, Nat.zero_le, List.drop_zero, List.map_cons, List.map_nil, allSize, Abs.flat, go_sem, maxLenA, ne_up1, ne_dn1, ne_up2, ne_dn2, ne_up3, ne_dn3, ne_up4, ne_dn4, ne_up5, ne_dn5, ne_up6, ne_dn6, Option.some.injEq, Nat.reduceAdd, Nat.reduceSub, Nat.reduceMul, Nat.reduceEqDiff, Nat.reduceLT, Nat.reduceLeDiff]
      refine ⟨wc29 (((hc.tmp _).tmp _).tmp _).known _ hnm, ?_⟩
      refine wc_line ((hc.tmp _).box ([x.bits, x.rate, x.volume, x.pan, x.fine].map i64) 0 3 (by decide) (by decide)) (wSample :: Tx.quoted x.name :: [x.bits, x.rate, x.volume, x.pan, x.fine].map Lib.itoa) (by simp only [List.length_append, List.length_cons, List.length_nil, List.map_cons, List.map_nil, wSample, wLoops, wData] at *; omega) (by simp [maxLenA]) (by rfl) (by rfl) (by rfl) fun T hc => ?_
      have q2 := hc.get (List.mem_cons_self ..)
      have hc := hc.forget
      have e1 := hc.get m1
      have n1 := hc.ne m1
      simp only [Option.map_some, e1, go_sem, ne_up1, ne_dn1, ne_up2, ne_dn2, ne_up3, ne_dn3, ne_up4, ne_dn4, ne_up5, ne_dn5, ne_up6, ne_dn6, Option.some.injEq, Nat.reduceEqDiff]
      exact ⟨⟨wc29 hc.known _ hnm, wc35b (l := [x.bits, x.rate, x.volume, x.pan, x.fine]) hc.known q2 i1 (by simp)⟩, hc⟩
  · rintro e T ⟨hc, g0, g3'⟩
    have e1 := hc.get m1
    have n1 := hc.ne m1
    simp only [g0, g3', e1, go_sem, ne_up1, ne_up2, ne_up3, ne_up4, ne_up5, ne_up6, Nat.reduceAdd, Nat.reduceMul, Nat.reduceEqDiff, Nat.reduceLT, Nat.reduceLeDiff]
    refine wc_wordsr hc [x.lp, x.start, x.stop, x.sus, x.susStart, x.susEnd] i2 (by simp) (by simp only [List.length_append, List.length_cons, List.length_nil, List.map_cons, List.map_nil, wSample, wLoops, wData] at *; omega) (by rfl) (by rfl) (by rfl) fun T hc => ?_
    have e1 := hc.get m1
    have n1 := hc.ne m1
    simp only [g0, g3', e1, List.length_map, go_sem, ne_up1, ne_up2, ne_up3, ne_up4, Nat.reduceAdd, Nat.reduceMul, Nat.reduceEqDiff, Nat.reduceLT, Nat.reduceLeDiff]
    refine wc_wordsr hc [(x.data.length : Int)] (fun k hk => by rw [List.mem_singleton.1 hk]; exact ⟨by omega, by omega⟩) (by simp) (by simp only [List.length_append, List.length_cons, List.length_nil, List.map_cons, List.map_nil, wSample, wLoops, wData] at *; omega) (by rfl) (by rfl) (by rfl) fun T hc => ?_
    simp only [go_sem, Nat.reduceLT]
    have hc9 : HC m wb S [(S.next, Ob.blk (smpC (intsV x.data) x) 0 48)] (bs ++ (jw (wSample :: Tx.quoted x.name :: [x.bits, x.rate, x.volume, x.pan, x.fine].map Lib.itoa) ++ [10]) ++ (jw (wLoops :: [x.lp, x.start, x.stop, x.sus, x.susStart, x.susEnd].map Lib.itoa) ++ [10]) ++ (jw (wData :: [(x.data.length : Int)].map Lib.itoa) ++ [10])) T := hc
    have hend : (bs ++ (jw (wSample :: Tx.quoted x.name :: [x.bits, x.rate, x.volume, x.pan, x.fine].map Lib.itoa) ++ [10]) ++ (jw (wLoops :: [x.lp, x.start, x.stop, x.sus, x.susStart, x.susEnd].map Lib.itoa) ++ [10]) ++ (jw (wData :: [(x.data.length : Int)].map Lib.itoa) ++ [10])) ++ tl = out := by rw [← hout]; simp
    have hlen : ((bs ++ (jw (wSample :: Tx.quoted x.name :: [x.bits, x.rate, x.volume, x.pan, x.fine].map Lib.itoa) ++ [10]) ++ (jw (wLoops :: [x.lp, x.start, x.stop, x.sus, x.susStart, x.susEnd].map Lib.itoa) ++ [10]) ++ (jw (wData :: [(x.data.length : Int)].map Lib.itoa) ++ [10])) ++ tl).length ≤ maxLenA := by rw [hend, ← hout, List.length_append]; exact hl
    generalize bs ++ (jw (wSample :: Tx.quoted x.name :: [x.bits, x.rate, x.volume, x.pan, x.fine].map Lib.itoa) ++ [10]) ++ (jw (wLoops :: [x.lp, x.start, x.stop, x.sus, x.susStart, x.susEnd].map Lib.itoa) ++ [10]) ++ (jw (wData :: [(x.data.length : Int)].map Lib.itoa) ++ [10]) = b0 at hc9 hlen hend
    have hl0 : b0.length + tl.length ≤ maxLenA := by rw [← List.length_append]; exact hlen
    rw [← hend]
    have hsz : allSize 1 (x.data.map intV) = true := allSize_map (s := 1) intV (fun _ => rfl) x.data
    refine wloop_meas (fun m' e S' => ∃ (j : Nat) (bw : List UInt8), m' = x.data.length - j ∧ j ≤ x.data.length ∧ HC m wb S [(S.next, Ob.blk (smpC (intsV x.data) x) 0 48)] bw S' ∧
      bw ++ Tx.flat (chunks (x.data.length - j) (x.data.drop (32 * j))) = b0 ++ tl ∧ e.get 0 = .ref wb 0 ∧ e.get 3 = .ref S.next 0 ∧ e.get 4 = i64 ((32 * j : Nat) : Int)) ?_ x.data.length _ _ ?_
    · rintro m' e S' ⟨j, bw, rfl, hj, hc, hbw, g0, g3', g4'⟩
      have e1 := hc.get m1
      have n1 := hc.ne m1
      rcases Nat.lt_or_ge (32 * j) x.data.length with hlt | hge
      · have h1 : (((32 * j : Nat) : Int) < (x.data.length : Int)) := by omega
        have w1 : IntKind.i64.wrap (((32 * j : Nat) : Int) + 32) = ((32 * (j + 1) : Nat) : Int) := by rw [wrap_i64 _ (by omega) (by omega)]; omega
        have hmin : min ((32 * (j + 1) : Nat) : Int) (x.data.length : Int) = ((min (32 * j + 32) x.data.length : Nat) : Int) := by omega
        have q1 : (0 : Int) ≤ ((32 * j : Nat) : Int) := by omega
        have q2 : (0 : Int) ≤ ((min (32 * j + 32) x.data.length : Nat) : Int) := by omega
        have q3 : 32 * j ≤ min (32 * j + 32) x.data.length := by omega
        have q4 : min (32 * j + 32) x.data.length ≤ x.data.length := by omega
        have hcut := chunk_cut x.data (32 * j)
        have hne : x.data.drop (32 * j) ≠ [] := by
          intro h
          have := congrArg List.length h
          rw [List.length_drop, List.length_nil] at this
          omega
        have hsplit : Tx.flat (chunks (x.data.length - j) (x.data.drop (32 * j))) = jw (((x.data.drop (32 * j)).take 32).map Lib.itoa) ++ [10] ++ Tx.flat (chunks (x.data.length - (j + 1)) (x.data.drop (32 * (j + 1)))) := by
          have : x.data.length - j = x.data.length - (j + 1) + 1 := by omega
          rw [this, chunks, if_neg hne, flat_cons, List.drop_drop, Nat.mul_add]
        have hnum : ∀ k ∈ (x.data.drop (32 * j)).take 32, I64 k := fun k hk => num_i64 (g5 k (List.mem_of_mem_drop (List.mem_of_mem_take hk)))
        simp only [g0, g3', g4', e1, h1, w1, hmin, q1, q2, q3, q4, hcut, hsz, List.length_map, Int.toNat_natCast, go_sem, ne_up1, ne_up2, ne_up3, ne_up4, ne_up5, ne_up6, Nat.reduceAdd, Nat.reduceEqDiff, Nat.reduceLT]
        refine wc_is (wc35 hc.known _ hnum (by rw [List.length_take]; omega)) ?_
        simp only [go_sem, ne_up1, ne_up2, ne_up3, ne_up4, ne_up5, ne_up6, Nat.reduceEqDiff, Nat.reduceLT]
        have hlw : bw.length + ((jw (((x.data.drop (32 * j)).take 32).map Lib.itoa)).length + 1) ≤ maxLenA := by
          have := congrArg List.length hbw
          rw [hsplit] at this
          simp only [List.length_append, List.length_cons, List.length_nil] at this
          omega
        refine wc_hc hc (wc16 hc.wr _ hlw (by rw [List.length_map, List.length_take]; simp only [maxLenA]; omega)) fun T hc => ?_
        simp only [g0, g3', g4', w1, go_sem, ne_up1, ne_up4, Nat.reduceEqDiff, Nat.reduceLT]
        refine ⟨x.data.length - (j + 1), by omega, j + 1, _, rfl, by omega, hc, ?_, rfl⟩
        rw [← hbw, hsplit]
        simp
      · have h1 : ¬ (((32 * j : Nat) : Int) < (x.data.length : Int)) := by omega
        simp only [g3', g4', e1, h1, List.length_map, go_sem, ne_up1, ne_up2, ne_up3, Nat.reduceAdd, Nat.reduceEqDiff, Nat.reduceLT]
        refine ends_now ⟨rfl, ?_, hc.keep⟩
        have hnil : Tx.flat (chunks (x.data.length - j) (x.data.drop (32 * j))) = [] := by
          rw [List.drop_eq_nil_of_le (by omega)]
          cases x.data.length - j <;> rfl
        rw [hnil, List.append_nil] at hbw
        rw [← hbw]
        exact hc.wr
    · exact ⟨0, b0, rfl, Nat.zero_le _, hc9, by rw [Nat.mul_zero, List.drop_zero, Nat.sub_zero, htl], by simp only [g0, go_sem, ne_up4, Nat.reduceEqDiff], by simp only [g3', go_sem, ne_up1, Nat.reduceEqDiff], by simp only [go_sem, Int.cast_ofNat_Int, Nat.reduceMul]⟩
end Go.Proofs.YtgjnimemofmncaaGreatDoor

namespace Go.Proofs.YtgjnimemofmncaaGreatDoor
open Go.Abs Go.Tx
set_option maxHeartbeats 2000000
set_option maxRecDepth 20000
variable {m : Int} {wb : Nat} {S T T' : St} {L : List (Nat × Ob)} {bs bs' : List UInt8}
def envN (e : EnvV) : List Int := [bN e.on, bN e.sus, e.susStart, e.susEnd, bN e.lp, e.lpStart, e.lpEnd]
theorem wc37 (w : List UInt8) (e : EnvV) (g : GoodE e) (hp : e.points.length ≤ 1000000) {S : St} (hk : S.known = KN m) (h : Wr wb bs S) (hl : bs.length + ((envL w e).length + 1) ≤ maxLenA) :
    WC Tryz.prog 37 [.ref wb 0, str w, .c (envV e)] (WrIs wb (bs ++ (envL w e ++ [10])) (.tup []) S) S := by
  obtain ⟨g1, g2⟩ := g
  have i1 : ∀ k ∈ envN e, I64 k := fun k hk => by
    simp only [envN, List.mem_cons, List.not_mem_nil, or_false] at hk
    rcases hk with rfl | rfl | rfl | rfl | rfl | rfl | rfl
    · exact num_i64 (num_bool _)
    · exact num_i64 (num_bool _)
    · exact num_i64 (g1 _ (by simp))
    · exact num_i64 (g1 _ (by simp))
    · exact num_i64 (num_bool _)
    · exact num_i64 (g1 _ (by simp))
    · exact num_i64 (g1 _ (by simp))
  have hE : envL w e = jw ((w :: (envN e).map Lib.itoa) ++ e.points.map pairT) := rfl
  generalize hout : bs ++ (envL w e ++ [10]) = out
  rw [hE] at hl hout
  refine wc_fn (fn := Tryz.f37) (N := 50) (rs := []) (by rfl) (by kernel_rfl) (by rfl) (by rfl) (by rfl) (by rfl) fun hS => ?_
  have hc := (HC.start h hS hk).box (envCv e) 0 52 (by decide) (by decide)
  simp only [go_sem, ne_dn1, ne_dn2, Nat.reduceAdd, Nat.reduceLT]
  have m1 : (S.next, Ob.blk (envCv e) 0 52) ∈ [(S.next, Ob.blk (envCv e) 0 52)] := by simp
  refine wdraw_cut (fun e' T => ∃ x, GrowAt m wb S [(S.next, Ob.blk (envCv e) 0 52)] bs (w :: (envN e).map Lib.itoa) x T ∧ e'.get 0 = .ref wb 0 ∧ e'.get 5 = .ref S.next 0 ∧ e'.get 6 = .sl x 0 8 1 false) ?_ ?_
  · refine wdraw_plan ch37x1 pp37x1 (by kernel_rfl) (by kernel_rfl) (by kernel_rfl) ?_
    simp only [go_sem, ne_dn1, ne_up4, Nat.reduceAdd, Nat.reduceLT]
    refine ⟨_, wc31 _ _, ?_⟩
    simp only [go_sem, ne_up4, ne_up6, Nat.reduceAdd, Nat.reduceEqDiff, Nat.reduceLT]
    refine ⟨_, wc31 _ _, ?_⟩
    simp only [go_sem, ne_up4, ne_up6, Nat.reduceAdd, Nat.reduceEqDiff, Nat.reduceLT]
    refine ⟨_, wc31 _ _, ?_⟩
    simp only [go_sem, ne_up1, ne_dn1, ne_up2, ne_dn2, ne_up3, ne_dn3, ne_up4, ne_dn4, ne_up5, ne_dn5, ne_up6, ne_dn6, Option.some.injEq, Nat.reduceAdd, Nat.reduceMul, Nat.reduceEqDiff, Nat.reduceLT, Nat.reduceLeDiff]
    have gi : ∀ (T : St), (T.new (.blk ((envN e).map i64) 0 3)).get T.next = some (.blk ((envN e).map i64) 0 3) := fun T => by rw [St.get_new]; exact if_pos rfl
    refine ⟨⟨_, wc35b (l := envN e) (hc.tmp _).known (gi _) i1 (by simp [envN]), ?_⟩, ⟨wc31 _ _, wc31 _ _, wc31 _ _⟩, _, wc35b (l := envN e) ((hc.tmp _).tmp _).known (gi _) i1 (by simp [envN]), ?_⟩
    · simp only [t9b, t9s, t9z, size_one, Option.map_some, Nat.mul_one, Nat.zero_add, Nat.zero_le, List.drop_zero, List.map_cons, List.map_nil, allSize, Abs.flat, envN, go_sem, maxLenA, ne_up1, ne_dn1, ne_up2, ne_dn2, ne_up3, ne_dn3, ne_up4, ne_dn4, ne_up5, ne_dn5, ne_up6, ne_dn6, Option.some.injEq, Nat.reduceAdd, Nat.reduceSub, Nat.reduceMul, Nat.reduceEqDiff, Nat.reduceLT, Nat.reduceLeDiff]
      refine ⟨⟨wc31 _ _, wc31 _ _, wc31 _ _, wc35b (l := envN e) ((hc.tmp _).tmp _).known (by rw [St.get_new, if_neg (by simp [next_new])]; exact gi _) i1 (by simp [envN])⟩, ⟨wc31 _ _, wc31 _ _, wc31 _ _⟩, S.next + 1 + 1 + 1, ?_, rfl⟩
      exact GrowAt.start ((hc.tmp _).tmp _) (w :: (envN e).map Lib.itoa)
    · simp only [t9b, t9s, t9z, size_one, Option.map_some, Nat.mul_one, Nat.zero_add, Nat.zero_le, List.drop_zero, List.map_cons, List.map_nil, allSize, Abs.flat, envN, go_sem, maxLenA, ne_up1, ne_dn1, ne_up2, ne_dn2, ne_up3, ne_dn3, ne_up4, ne_dn4, ne_up5, ne_dn5, ne_up6, ne_dn6, Option.some.injEq, Nat.reduceAdd, Nat.reduceSub, Nat.reduceMul, Nat.reduceEqDiff, Nat.reduceLT, Nat.reduceLeDiff]
      refine ⟨⟨wc31 _ _, wc31 _ _, wc31 _ _⟩, S.next + 1 + 1 + 1, ?_, rfl⟩
      exact GrowAt.start ((hc.tmp _).tmp _) (w :: (envN e).map Lib.itoa)
  · rintro e' T ⟨x, hg, g0, g5, g6⟩
    have e1 := hg.hc.get m1
    simp only [g5, e1, List.length_map, go_sem, Nat.reduceAdd, Nat.reduceLT]
    refine wloop_meas (fun m' e' S' => ∃ (i x : Nat), m' = e.points.length - i ∧ i ≤ e.points.length ∧ GrowAt m wb S [(S.next, Ob.blk (envCv e) 0 52)] bs (growW (w :: (envN e).map Lib.itoa) pairT e.points i) x S' ∧
      e'.get 0 = .ref wb 0 ∧ e'.get 5 = .ref S.next 0 ∧ e'.get 6 = .sl x 0 (8 + i) 1 false ∧ e'.get 32 = .c (ptsV e.points) ∧ e'.get 33 = i64 e.points.length ∧ e'.get 34 = i64 i) ?_ e.points.length _ _ ?_
    · rintro m' e' S' ⟨i, x, rfl, hi, hg, g0, g5, g6, g32, g33, g34⟩
      rcases Nat.lt_or_ge i e.points.length with hlt | hge
      · have h1 : ((i : Int) < (e.points.length : Int)) := by omega
        have h2 : ¬ ((i : Int) < 0) := by omega
        have h3 : (e.points.map keyV)[i]? = some (keyV e.points[i]) := by simp [hlt]
        have hsz : allSize 2 (e.points.map keyV) = true := allSize_map (s := 2) keyV (fun _ => rfl) e.points
        have h5 := step_wrap i (by omega)
        have hx := hg.get
        have hxn : (S'.next = x) = False := eq_false (by have := hg.hc.wf _ _ hx; omega)
        have hxn2 : (S'.next + 1 = x) = False := eq_false (by have := hg.hc.wf _ _ hx; omega)
        have zl : ((growW (w :: (envN e).map Lib.itoa) pairT e.points i).map strC).length = 8 + i := by rw [List.length_map, growW_length _ _ _ hi]; simp [envN]
        have zt : ((growW (w :: (envN e).map Lib.itoa) pairT e.points i).map strC).take (8 + i) = (growW (w :: (envN e).map Lib.itoa) pairT e.points i).map strC := List.take_of_length_le (by omega)
        have z1 : (8 + i + 1) * 16 ≤ 140737488355328 := by omega
        have z2 : ¬ (8 + i + 1 ≤ 8 + i) := by omega
        have zw := growW_step (w :: (envN e).map Lib.itoa) pairT e.points hlt
        have hk' := hg.hc.known
        have hr := g2 _ (List.getElem_mem hlt)
        generalize e.points[i] = p at *
        simp only [Option.map_some, Nat.zero_add, Nat.zero_le, List.drop_zero, List.length_map, List.map_cons, List.map_nil, g6, g32, g33, g34, h1, h2, h3, hlt, hsz, Int.toNat_natCast, go_sem, put_new, ne_up1, ne_up2, ne_up3, Nat.reduceAdd, Nat.reduceEqDiff, Nat.reduceLT, Nat.reduceLeDiff]
        refine wc_is (wc36 (by exact hk') _ _ (num_i64 hr.1) (num_i64 hr.2)) ?_
        simp only [t9b, t9s, t9z, size_one, Option.map_some, Nat.mul_one, Nat.zero_add, Nat.zero_le, List.drop_zero, List.map_cons, List.map_nil, g0, g5, g32, g33, g34, hx, hxn, hxn2, zl, zt, z1, z2, h5, Nat.le_refl, go_sem, maxLenA, ne_up1, ne_dn1, ne_up2, ne_up3, ne_up4, ne_up5, ne_up6, Nat.reduceSub, Nat.reduceEqDiff, Nat.reduceLT, Nat.reduceLeDiff]
        refine ⟨e.points.length - (i + 1), by omega, i + 1, S'.next + 1 + 1, rfl, by omega, ?_, rfl, rfl⟩
        rw [← zw]
        exact ((hg.tmp _).tmp (.blk [strC (pairT p)] 0 9)).dead (pairT p)
      · have h1 : ¬ ((i : Int) < (e.points.length : Int)) := by omega
        have hi' : i = e.points.length := by omega
        subst hi'
        rw [growW_all] at hg
        simp only [g0, g6, g33, g34, h1, go_sem, ne_up1, Nat.reduceEqDiff, Nat.reduceLT]
        refine hg.line (by simp [envN]; omega) hl (by simp [envN, maxLenA]; omega) fun T hc => ?_
        simp only [go_sem]
        exact ends_now ⟨rfl, by rw [← hout]; exact hc.wr, hc.keep⟩
    · exact ⟨0, x, rfl, Nat.zero_le _, by rw [growW_zero]; exact hg, by simp only [g0, go_sem, Nat.reduceEqDiff], by simp only [g5, go_sem, Nat.reduceEqDiff], by simp only [g6, go_sem, Nat.reduceAdd, Nat.reduceEqDiff], by simp only [go_sem, ne_up1, ne_up2], by simp only [go_sem, ne_up1], by simp only [go_sem, Int.cast_ofNat_Int]⟩
def insN (x : InsV) : List Int := [x.fade, x.newNote, x.dup, x.dupDo, x.global, x.cutoff, x.reso]
theorem wc15 (x : InsV) (g : GoodI x) (hp : x.volume.points.length ≤ 1000000 ∧ x.panning.points.length ≤ 1000000 ∧ x.pitch.points.length ≤ 1000000) {S : St} (hk : S.known = KN m) (h : Wr wb bs S) (hl : bs.length + (Tx.flat (insL x)).length ≤ maxLenA) :
    WC Tryz.prog 15 [.ref wb 0, .c (insV x)] (WrIs wb (bs ++ Tx.flat (insL x)) (.tup []) S) S := by
  obtain ⟨g1, g2, g3, g4, g5, g6, g7⟩ := g
  have i1 : ∀ k ∈ insN x, I64 k := fun k hk => num_i64 (g2 k hk)
  have hfl : Tx.flat (insL x) = jw (wInst :: Tx.quoted x.name :: (insN x).map Lib.itoa) ++ [10] ++ (jw (wKeys :: x.keys.map pairT) ++ [10] ++ (envL wVolume x.volume ++ [10] ++ (envL wPanning x.panning ++ [10] ++ (envL wPitch x.pitch ++ [10])))) := by
    unfold insL
    rw [flat_cons, flat_cons, flat_cons, flat_cons, flat_cons]
    simp [Tx.flat, insN]
  generalize hout : bs ++ Tx.flat (insL x) = out
  rw [hfl] at hl hout
  have hl' : bs.length + ((jw (wInst :: Tx.quoted x.name :: (insN x).map Lib.itoa)).length + 1 + ((jw (wKeys :: x.keys.map pairT)).length + 1 + ((envL wVolume x.volume).length + 1 + ((envL wPanning x.panning).length + 1 + ((envL wPitch x.pitch).length + 1))))) ≤ maxLenA := by
    simp only [List.length_append, List.length_cons, List.length_nil, Nat.zero_add] at hl
    exact hl
  generalize hvv : envL wVolume x.volume = vv at *
  generalize hpn : envL wPanning x.panning = vp at *
  generalize hpt : envL wPitch x.pitch = vt at *
  refine wc_fn (fn := Tryz.f15) (N := 62) (rs := []) (by rfl) (by kernel_rfl) (by rfl) (by rfl) (by rfl) (by rfl) fun hS => ?_
  have hc := (HC.start h hS hk).box ((insV x).cells.map .c) 0 54 (by decide) (by decide)
  simp only [go_sem, ne_dn1, Nat.reduceAdd, Nat.reduceLT]
  have m1 : (S.next, Ob.blk ((insV x).cells.map .c) 0 54) ∈ [(S.next, Ob.blk ((insV x).cells.map .c) 0 54)] := by simp
  have hnm : x.name.length ≤ 1000 := by have := g1.1; omega
  have gi : ∀ (T : St), (T.new (.blk ((insN x).map i64) 0 3)).get T.next = some (.blk ((insN x).map i64) 0 3) := fun T => by rw [St.get_new]; exact if_pos rfl
  refine wdraw_cut (fun e' T => HC m wb S [(S.next, Ob.blk ((insV x).cells.map .c) 0 54)] (bs ++ (jw (wInst :: Tx.quoted x.name :: (insN x).map Lib.itoa) ++ [10])) T ∧ e'.get 0 = .ref wb 0 ∧ e'.get 3 = .ref S.next 0) ?_ ?_
  · refine wdraw_plan ch15x1 pp15x1 (by kernel_rfl) (by kernel_rfl) (by kernel_rfl) ?_
    simp only [go_sem, ne_up3, ne_up4, Nat.reduceAdd, Nat.reduceLT]
    refine ⟨_, wc29 hc.known _ hnm, ?_⟩
    simp only [go_sem, ne_up1, ne_dn1, ne_up2, ne_dn2, ne_up3, ne_dn3, ne_up4, ne_dn4, ne_up5, ne_dn5, ne_up6, ne_dn6, Option.some.injEq, Nat.reduceAdd, Nat.reduceMul, Nat.reduceEqDiff, Nat.reduceLT, Nat.reduceLeDiff]
    refine ⟨⟨wc29 (hc.tmp _).known _ hnm, _, wc35b (l := insN x) (hc.tmp _).known (gi _) i1 (by simp [insN]), ?_⟩, wc29 ((hc.tmp _).tmp _).known _ hnm, _, wc35b (l := insN x) ((hc.tmp _).tmp _).known (gi _) i1 (by simp [insN]), ?_⟩
    · simp only [t9b, t9s, t9z, size_one, Option.map_some, Nat.mul_one, Nat.zero_add, Nat.zero_le, List.drop_zero, List.map_cons, List.map_nil, allSize, Abs.flat, insN, go_sem, maxLenA, ne_up1, ne_dn1, ne_up2, ne_dn2, ne_up3, ne_dn3, ne_up4, ne_dn4, ne_up5, ne_dn5, ne_up6, ne_dn6, Option.some.injEq, Nat.reduceAdd, Nat.reduceSub, Nat.reduceMul, Nat.reduceEqDiff, Nat.reduceLT, Nat.reduceLeDiff]
      refine ⟨wc35b (l := insN x) ((hc.tmp _).tmp _).known (by rw [St.get_new, if_neg (by simp [next_new])]; exact gi _) i1 (by simp [insN]), wc29 (((hc.tmp _).tmp _).tmp _).known _ hnm, ?_⟩
      refine wc_line ((hc.box ((insN x).map i64) 0 3 (by decide) (by decide)).tmp _) (wInst :: Tx.quoted x.name :: (insN x).map Lib.itoa) (by omega) (by simp [maxLenA, insN]) (by rfl) (by rfl) (by rfl) fun T hc => ?_
      have q2 := hc.get (List.mem_cons_self ..)
      have hc := hc.forget
      have e1 := hc.get m1
      have n1 := hc.ne m1
      simp only [Option.map_some, List.map_cons, List.map_nil, e1, go_sem, ne_up1, ne_dn1, ne_up2, ne_dn2, ne_up3, ne_dn3, ne_up4, ne_dn4, ne_up5, ne_dn5, ne_up6, ne_dn6, Option.some.injEq, Nat.reduceEqDiff]
      exact ⟨⟨wc29 hc.known _ hnm, wc35b (l := insN x) hc.known q2 i1 (by simp [insN])⟩, hc⟩
    · simp only [t9b, t9s, t9z, size_one, Option.map_some, Nat.mul_one, Nat.zero_add, Nat.zero_le, List.drop_zero, List.map_cons, List.map_nil, allSize, Abs.flat, insN, go_sem, maxLenA, ne_up1, ne_dn1, ne_up2, ne_dn2, ne_up3, ne_dn3, ne_up4, ne_dn4, ne_up5, ne_dn5, ne_up6, ne_dn6, Option.some.injEq, Nat.reduceAdd, Nat.reduceSub, Nat.reduceMul, Nat.reduceEqDiff, Nat.reduceLT, Nat.reduceLeDiff]
      refine ⟨wc29 (((hc.tmp _).tmp _).tmp _).known _ hnm, ?_⟩
      refine wc_line ((hc.tmp _).box ((insN x).map i64) 0 3 (by decide) (by decide)) (wInst :: Tx.quoted x.name :: (insN x).map Lib.itoa) (by omega) (by simp [maxLenA, insN]) (by rfl) (by rfl) (by rfl) fun T hc => ?_
      have q2 := hc.get (List.mem_cons_self ..)
      have hc := hc.forget
      have e1 := hc.get m1
      have n1 := hc.ne m1
      simp only [Option.map_some, List.map_cons, List.map_nil, e1, go_sem, ne_up1, ne_dn1, ne_up2, ne_dn2, ne_up3, ne_dn3, ne_up4, ne_dn4, ne_up5, ne_dn5, ne_up6, ne_dn6, Option.some.injEq, Nat.reduceEqDiff]
      exact ⟨⟨wc29 hc.known _ hnm, wc35b (l := insN x) hc.known q2 i1 (by simp [insN])⟩, hc⟩
  rintro e T ⟨hc, g0, g3'⟩
  have e1 := hc.get m1
  have n1 := hc.ne m1
  simp only [g3', e1, n1, List.length_map, go_sem, ne_up1, Nat.reduceAdd, Nat.reduceMul, Nat.reduceEqDiff, Nat.reduceLT, Nat.reduceLeDiff]
  have hkl : x.keys.length ≤ 120 := by rcases g3 with h | h <;> omega
  have hb1 : (bs ++ (jw (wInst :: Tx.quoted x.name :: (insN x).map Lib.itoa) ++ [10])).length + ((jw (wKeys :: x.keys.map pairT)).length + 1 + (vv.length + 1 + (vp.length + 1 + (vt.length + 1)))) ≤ maxLenA := by
    simp only [List.length_append, List.length_cons, List.length_nil, Nat.zero_add]; omega
  have hend : (bs ++ (jw (wInst :: Tx.quoted x.name :: (insN x).map Lib.itoa) ++ [10])) ++ (jw (wKeys :: x.keys.map pairT) ++ [10]) ++ (vv ++ [10]) ++ (vp ++ [10]) ++ (vt ++ [10]) = out := by rw [← hout]; simp
  generalize bs ++ (jw (wInst :: Tx.quoted x.name :: (insN x).map Lib.itoa) ++ [10]) = b1 at hc hb1 hend
  refine wloop_meas (fun m' e S' => ∃ (i y : Nat) (full : Bool), m' = x.keys.length - i ∧ i ≤ x.keys.length ∧ GrowAt m wb S [(S.next, Ob.blk ((insV x).cells.map .c) 0 54)] b1 (growW [wKeys] pairT x.keys i) y S' ∧
    e.get 0 = .ref wb 0 ∧ e.get 3 = .ref S.next 0 ∧ e.get 4 = .sl y 0 (1 + i) 1 full ∧ e.get 32 = .c (ptsV x.keys) ∧ e.get 33 = i64 x.keys.length ∧ e.get 34 = i64 i) ?_ x.keys.length _ _ ?_
  · rintro m' e S' ⟨i, y, full, rfl, hi, hg, g0, g3', g4', g32, g33, g34⟩
    rcases Nat.lt_or_ge i x.keys.length with hlt | hge
    · have h1 : ((i : Int) < (x.keys.length : Int)) := by omega
      have h2 : ¬ ((i : Int) < 0) := by omega
      have h3 : (x.keys.map keyV)[i]? = some (keyV x.keys[i]) := by simp [hlt]
      have hsz : allSize 2 (x.keys.map keyV) = true := allSize_map (s := 2) keyV (fun _ => rfl) x.keys
      have h5 := step_wrap i (by omega)
      have hx := hg.get
      have hxn : (S'.next = y) = False := eq_false (by have := hg.hc.wf _ _ hx; omega)
      have hxn2 : (S'.next + 1 = y) = False := eq_false (by have := hg.hc.wf _ _ hx; omega)
      have zl : ((growW [wKeys] pairT x.keys i).map strC).length = 1 + i := by rw [List.length_map, growW_length _ _ _ hi]; simp
      have zt : ((growW [wKeys] pairT x.keys i).map strC).take (1 + i) = (growW [wKeys] pairT x.keys i).map strC := List.take_of_length_le (by omega)
      have z1 : (1 + i + 1) * 16 ≤ 140737488355328 := by omega
      have z2 : ¬ (1 + i + 1 ≤ 1 + i) := by omega
      have zw := growW_step [wKeys] pairT x.keys hlt
      have hk' := hg.hc.known
      have hr := g4 _ (List.getElem_mem hlt)
      generalize x.keys[i] = p at *
      simp only [Option.map_some, Nat.zero_add, Nat.zero_le, List.drop_zero, List.length_map, List.map_cons, List.map_nil, g4', g32, g33, g34, h1, h2, h3, hlt, hsz, Int.toNat_natCast, go_sem, put_new, ne_up1, ne_up2, ne_up3, Nat.reduceAdd, Nat.reduceEqDiff, Nat.reduceLT, Nat.reduceLeDiff]
      refine wc_is (wc36 (by exact hk') _ _ (num_i64 hr.1) (num_i64 hr.2)) ?_
      cases full with
      | true =>
        simp only [t9b, t9s, t9z, size_one, Option.map_some, Nat.mul_one, Nat.zero_add, Nat.zero_le, List.drop_zero, List.map_cons, List.map_nil, g0, g3', g32, g33, g34, hx, hxn, hxn2, zl, zt, z1, z2, h5, Nat.le_refl, go_sem, maxLenA, ne_up1, ne_dn1, ne_up2, ne_up3, ne_up4, ne_up5, ne_up6, Nat.reduceSub, Nat.reduceEqDiff, Nat.reduceLT, Nat.reduceLeDiff]
        refine ⟨x.keys.length - (i + 1), by omega, i + 1, S'.next + 1 + 1, false, rfl, by omega, ?_, rfl, rfl⟩
        rw [← zw]
        exact ((hg.tmp _).tmp (.blk [strC (pairT p)] 0 9)).grow (pairT p)
      | false =>
        simp only [t9b, t9s, t9z, size_one, Option.map_some, Nat.mul_one, Nat.zero_add, Nat.zero_le, List.drop_zero, List.map_cons, List.map_nil, g0, g3', g32, g33, g34, hx, hxn, hxn2, zl, zt, z1, z2, h5, Nat.le_refl, go_sem, maxLenA, ne_up1, ne_dn1, ne_up2, ne_up3, ne_up4, ne_up5, ne_up6, Nat.reduceSub, Nat.reduceEqDiff, Nat.reduceLT, Nat.reduceLeDiff]
        refine ⟨x.keys.length - (i + 1), by omega, i + 1, S'.next + 1 + 1, false, rfl, by omega, ?_, rfl, rfl⟩
        rw [← zw]
        exact ((hg.tmp _).tmp (.blk [strC (pairT p)] 0 9)).dead (pairT p)
    · have h1 : ¬ ((i : Int) < (x.keys.length : Int)) := by omega
      have hi' : i = x.keys.length := by omega
      subst hi'
      rw [growW_all] at hg
      simp only [g0, g4', g33, g34, h1, go_sem, ne_up1, Nat.reduceEqDiff, Nat.reduceLT]
      refine hg.line (by simp <;> omega) (show b1.length + ((jw (wKeys :: x.keys.map pairT)).length + 1) ≤ maxLenA by omega) (by simp [maxLenA]; omega) fun T hc => ?_
      have hc : HC m wb S [(S.next, Ob.blk ((insV x).cells.map .c) 0 54)] (b1 ++ (jw (wKeys :: x.keys.map pairT) ++ [10])) T := hc
      have e1 := hc.get m1
      have n1 := hc.ne m1
      simp only [g0, g3', e1, go_sem, ne_up1, ne_up2, Nat.reduceAdd, Nat.reduceEqDiff, Nat.reduceLT, Nat.reduceLeDiff]
      refine wc_hc hc (wc37 wVolume x.volume g5 hp.1 hc.known hc.wr (by rw [hvv]; simp only [List.length_append, List.length_cons, List.length_nil, Nat.zero_add]; omega)) fun T hc => ?_
      rw [hvv] at hc
      have e1 := hc.get m1
      have n1 := hc.ne m1
      simp only [g0, g3', e1, go_sem, ne_up1, ne_up2, Nat.reduceAdd, Nat.reduceEqDiff, Nat.reduceLT, Nat.reduceLeDiff]
      refine wc_hc hc (wc37 wPanning x.panning g6 hp.2.1 hc.known hc.wr (by rw [hpn]; simp only [List.length_append, List.length_cons, List.length_nil, Nat.zero_add]; omega)) fun T hc => ?_
      rw [hpn] at hc
      have e1 := hc.get m1
      have n1 := hc.ne m1
      simp only [g0, g3', e1, go_sem, ne_up1, ne_up2, Nat.reduceAdd, Nat.reduceEqDiff, Nat.reduceLT, Nat.reduceLeDiff]
      refine wc_hc hc (wc37 wPitch x.pitch g7 hp.2.2 hc.known hc.wr (by rw [hpt]; simp only [List.length_append, List.length_cons, List.length_nil, Nat.zero_add]; omega)) fun T hc => ?_
      rw [hpt] at hc
      simp only [go_sem]
      exact ends_now ⟨rfl, by rw [← hend]; exact hc.wr, hc.keep⟩
  · exact ⟨0, T.next, true, rfl, Nat.zero_le _, by rw [growW_zero]; exact GrowAt.start hc [wKeys], by simp only [g0, go_sem, ne_up4, Nat.reduceEqDiff], by simp only [g3', go_sem, ne_up1, Nat.reduceEqDiff], by simp only [go_sem, Nat.reduceAdd, Nat.reduceEqDiff], by simp only [go_sem, ne_up1, ne_up2], by simp only [go_sem, ne_up1], by simp only [go_sem, Int.cast_ofNat_Int]⟩
end Go.Proofs.YtgjnimemofmncaaGreatDoor

namespace Go.Proofs.YtgjnimemofmncaaGreatDoor
open Go.Abs Go.Tx
set_option maxHeartbeats 2000000
set_option maxRecDepth 20000
variable {m : Int} {wb : Nat} {S T T' : St} {L : List (Nat × Ob)} {bs bs' : List UInt8}
def fmtA (s : SongV) : List AV :=
  if validS s = true then (if (Tx.flat (fmtL s)).length ≤ 200000 then [str (Tx.flat (fmtL s)), i64 0] else [str [], i64 3]) else [str [], i64 1]
theorem flat_step {α : Type} (f : α → List (List UInt8)) {l : List α} {i : Nat} (h : i < l.length) : Tx.flat ((l.drop i).flatMap f) = Tx.flat (f l[i]) ++ Tx.flat ((l.drop (i + 1)).flatMap f) := by
  rw [List.drop_eq_getElem_cons h, List.flatMap_cons, flat_append]
theorem wc6 (s : SongV) (hz : Sized s) {S : St} (hk : S.known = KN m) : WC Tryz.prog 6 [.c (songV s)] (Is (.tup (fmtA s)) S) S := by
  refine wc_fn (fn := Tryz.f6) (N := 55) (rs := [.tmp 2, .tmp 3]) (by rfl) (by kernel_rfl) (by rfl) (by rfl) (by rfl) (by rfl) fun hS => ?_
  simp only [go_sem, ne_up1, ne_up2, Nat.reduceAdd, Nat.reduceLT, Nat.reduceLeDiff]
  refine wc_is (wc11 s hz _) ?_
  cases hv : validS s with
  | false =>
    simp only [go_sem, ne_up1, Nat.reduceLT]
    refine ends_fwd (by repeat (first | exact Fwd.refl hS | assumption | refine Fwd.new ?_ _ | refine Fwd.put ?_ (by first | exact Nat.le_refl _ | exact Nat.le_succ _ | exact Nat.le_add_right _ _ | omega | (simp only [next_new, next_put]; omega)) _)) rfl ⟨?_, rfl⟩
    simp [fmtA, hv]
  | true =>
  have g := valid_good hv
  have hpt := valid_pts hv
  have hbd := flat_bound hv
  have hpn := valid_pans hv
  obtain ⟨c, hch⟩ := Int.eq_ofNat_of_zero_le (show 0 ≤ s.channels by have := g.channels; omega)
  have hch : s.channels = (c : Int) := hch
  have hc1 : 1 ≤ c := by have := g.channels.1; omega
  have hc2 : c ≤ 16 := by have := g.channels.2; omega
  have hct : s.channels.toNat = c := by rw [hch]; rfl
  have hfmt : Tx.flat (fmtL s) = Tx.flat (headL s) ++ (Tx.flat ((s.patterns.drop 0).flatMap (patL c)) ++ (Tx.flat ((s.samples.drop 0).flatMap smpL) ++ (Tx.flat ((s.insts.drop 0).flatMap insL) ++ (wEnd ++ [10])))) := by
    unfold fmtL
    rw [flat_append, flat_append, flat_append, flat_append, hct, List.drop_zero, List.drop_zero, List.drop_zero]
    rfl
  simp only [go_sem, ne_up1, ne_up2, ne_up3, Nat.reduceAdd, Nat.reduceEqDiff, Nat.reduceLT, Nat.reduceLeDiff]
  generalize hS1 : (S.new (.blk (songA s) 0 27)).new (.blk [.c .nilp, .c .nils] 0 59) = S1
  have hw1 : S1.Wf := by rw [← hS1]; exact wf_new (wf_new hS.1)
  have hn1 : S1.next = S.next + 2 := by rw [← hS1]; rfl
  have hb1 : S1.get S.next = some (.blk (songA s) 0 27) := by rw [← hS1, St.get_new, if_neg (by rw [next_new]; omega), St.get_new]; exact if_pos rfl
  have ho1 : ∀ b, b < S.next → S1.get b = S.get b := fun b hb => by rw [← hS1, St.get_new, if_neg (by rw [next_new]; omega), St.get_new, if_neg (by omega)]
  have hs1 : S1.spare = S.spare := by rw [← hS1]; rfl
  have hk1 : S1.known = S.known := by rw [← hS1]; rfl
  have hc0 : HC m (S.next + 1) S1 [] [] S1 := by
    refine ⟨hw1, ⟨.c .nilp, .c .nils, ?_, .inl rfl, .inl ⟨rfl, rfl⟩⟩, .refl _ _, by omega, hw1, hk1.trans hk, by simp⟩
    rw [← hS1, St.get_new]; exact if_pos rfl
  have hbox : ∀ {bs T}, HC m (S.next + 1) S1 [] bs T → T.get S.next = some (.blk (songA s) 0 27) := fun h => (h.keep.old _ (by omega)).trans hb1
  have hnn : ∀ {bs T}, HC m (S.next + 1) S1 [] bs T → (T.next = S.next) = False := fun h => eq_false (by have := h.wf _ _ (hbox h); omega)
  have hfwd : ∀ {bs T}, HC m (S.next + 1) S1 [] bs T → Fwd S T := fun h => fwd_of hS (by have := h.keep.next; omega) (fun b hb => (h.keep.old b (by omega)).trans (ho1 b hb)) (h.keep.spare.trans hs1) (h.keep.known.trans hk1)
  have hkn : KN m = KN m := rfl
  have hmax : (100000000000 : Nat) ≤ maxLenA := by decide
  have htot : ∀ (bw r : List UInt8), bw ++ r = Tx.flat (fmtL s) → bw.length + r.length ≤ maxLenA := fun bw r h => by rw [← List.length_append, h]; omega
  refine wc_hc hc0 (wc12 s g hc0.known hc0.wr (by
    have := htot (Tx.flat (headL s)) _ hfmt.symm
    simp only [List.length_nil]; omega) (by omega)) fun T hc => ?_
  rw [List.nil_append] at hc
  have e1 := hbox hc
  have n1 := hnn hc
  simp only [e1, List.length_map, go_sem, ne_up1, ne_up2, ne_up3, Nat.reduceAdd, Nat.reduceEqDiff, Nat.reduceLT]
  refine wloop_meas (fun m' e S' => ∃ (i : Nat) (bw : List UInt8), m' = s.patterns.length - i ∧ i ≤ s.patterns.length ∧ HC m (S.next + 1) S1 [] bw S' ∧ bw ++ (Tx.flat ((s.patterns.drop i).flatMap (patL c)) ++ (Tx.flat ((s.samples.drop 0).flatMap smpL) ++ (Tx.flat ((s.insts.drop 0).flatMap insL) ++ (wEnd ++ [10])))) = Tx.flat (fmtL s) ∧
    e.get 1 = .ref S.next 0 ∧ e.get 4 = .ref (S.next + 1) 0 ∧ e.get 17 = .c (.sl (s.patterns.map patV)) ∧ e.get 18 = i64 s.patterns.length ∧ e.get 19 = i64 i) ?_ s.patterns.length _ _ ?_
  rotate_left
  · exact ⟨0, _, rfl, Nat.zero_le _, hc, hfmt.symm, by simp only [go_sem, ne_up1, ne_up2, ne_up3, Nat.reduceEqDiff], by simp only [go_sem, Nat.reduceEqDiff], by simp only [go_sem, ne_up1, ne_up2], by simp only [go_sem, ne_up1], by simp only [go_sem, Int.cast_ofNat_Int]⟩
  · rintro m' e S' ⟨i, bw, rfl, hi, hc, hbw, g1, g4, g17, g18, g19⟩
    have e1 := hbox hc
    have n1 := hnn hc
    have hsz : allSize 2 (s.patterns.map patV) = true := allSize_map (s := 2) patV (fun _ => rfl) s.patterns
    have hcnt : s.patterns.length ≤ 32 := by have := g.patterns.1; omega
    rcases Nat.lt_or_ge i s.patterns.length with hlt | hge
    · have h1 : ((i : Int) < (s.patterns.length : Int)) := by omega
      have h2 : ¬ ((i : Int) < 0) := by omega
      have h3 : (s.patterns.map patV)[i]? = some (patV s.patterns[i]) := by simp [hlt]
      have h5 := step_wrap i (by omega)
      have hst := flat_step (patL c) hlt
      have hmem := List.getElem_mem hlt
      generalize s.patterns[i] = p at *
      rw [hst] at hbw
      have hl := htot _ _ hbw
      simp only [List.length_append] at hl
      simp only [g1, g4, g17, g18, g19, e1, n1, h1, h2, h3, hlt, hsz, List.length_map, Int.toNat_natCast, Option.map_some, hch, go_sem, put_new, ne_up1, ne_up2, ne_up3, ne_up5, Nat.reduceAdd, Nat.reduceEqDiff, Nat.reduceLT, Nat.reduceLeDiff]
      refine wc_hc (hc.tmp _) (wc13 p c hc1 hc2 (by rw [← hch]; exact g.patterns.2 p hmem) (hc.tmp _).known (hc.tmp _).wr (by omega)) fun T hc => ?_
      simp only [g1, g4, g17, g18, g19, h5, go_sem, ne_up1, ne_up2, ne_up3, ne_up4, ne_up5, ne_up6, Nat.reduceEqDiff, Nat.reduceLT]
      exact ⟨s.patterns.length - (i + 1), by omega, i + 1, _, rfl, by omega, hc, by rw [← hbw]; simp, rfl⟩
    · have h1 : ¬ ((i : Int) < (s.patterns.length : Int)) := by omega
      have hnil : Tx.flat ((s.patterns.drop i).flatMap (patL c)) = [] := by rw [List.drop_eq_nil_of_le hge]; rfl
      rw [hnil, List.nil_append] at hbw
      simp only [g1, g18, g19, h1, e1, List.length_map, go_sem, Nat.reduceAdd, Nat.reduceEqDiff, Nat.reduceLT]
      refine wloop_meas (fun m' e S' => ∃ (i : Nat) (bw : List UInt8), m' = s.samples.length - i ∧ i ≤ s.samples.length ∧ HC m (S.next + 1) S1 [] bw S' ∧ bw ++ (Tx.flat ((s.samples.drop i).flatMap (smpL)) ++ (Tx.flat ((s.insts.drop 0).flatMap insL) ++ (wEnd ++ [10]))) = Tx.flat (fmtL s) ∧
        e.get 1 = .ref S.next 0 ∧ e.get 4 = .ref (S.next + 1) 0 ∧ e.get 29 = .c (.sl (s.samples.map smpV)) ∧ e.get 30 = i64 s.samples.length ∧ e.get 31 = i64 i) ?_ s.samples.length _ _ ?_
      rotate_left
      · exact ⟨0, _, rfl, Nat.zero_le _, hc, hbw, by simp only [g1, go_sem, Nat.reduceEqDiff], by simp only [g4, go_sem, Nat.reduceEqDiff], by simp only [go_sem, ne_up1, ne_up2], by simp only [go_sem, ne_up1], by simp only [go_sem, Int.cast_ofNat_Int]⟩
      · rintro m' e S' ⟨i, bw, rfl, hi, hc, hbw, g1, g4, g29, g30, g31⟩
        have e1 := hbox hc
        have n1 := hnn hc
        have hsz : allSize 13 (s.samples.map smpV) = true := allSize_map (s := 13) smpV (fun _ => rfl) s.samples
        have hcnt : s.samples.length ≤ 32 := by have := g.samples.1; omega
        rcases Nat.lt_or_ge i s.samples.length with hlt | hge
        · have h1 : ((i : Int) < (s.samples.length : Int)) := by omega
          have h2 : ¬ ((i : Int) < 0) := by omega
          have h3 : (s.samples.map smpV)[i]? = some (smpV s.samples[i]) := by simp [hlt]
          have h5 := step_wrap i (by omega)
          have hst := flat_step (smpL) hlt
          have hmem := List.getElem_mem hlt
          generalize s.samples[i] = p at *
          rw [hst] at hbw
          have hl := htot _ _ hbw
          simp only [List.length_append] at hl
          simp only [g4, g29, g30, g31, h1, h2, h3, hlt, hsz, List.length_map, Int.toNat_natCast, Option.map_some, go_sem, put_new, ne_up1, ne_up3, ne_up4, Nat.reduceAdd, Nat.reduceEqDiff, Nat.reduceLT, Nat.reduceLeDiff]
          refine wc_hc (hc.tmp _) (wc14 p (g.samples.2 p hmem) (hc.tmp _).known (hc.tmp _).wr (by omega)) fun T hc => ?_
          simp only [g1, g4, g29, g30, g31, h5, go_sem, ne_up1, ne_up2, ne_up3, ne_up4, ne_up5, ne_up6, Nat.reduceEqDiff, Nat.reduceLT]
          exact ⟨s.samples.length - (i + 1), by omega, i + 1, _, rfl, by omega, hc, by rw [← hbw]; simp, rfl⟩
        · have h1 : ¬ ((i : Int) < (s.samples.length : Int)) := by omega
          have hnil : Tx.flat ((s.samples.drop i).flatMap (smpL)) = [] := by rw [List.drop_eq_nil_of_le hge]; rfl
          rw [hnil, List.nil_append] at hbw
          simp only [g1, g30, g31, h1, e1, List.length_map, go_sem, Nat.reduceAdd, Nat.reduceEqDiff, Nat.reduceLT]
          refine wloop_meas (fun m' e S' => ∃ (i : Nat) (bw : List UInt8), m' = s.insts.length - i ∧ i ≤ s.insts.length ∧ HC m (S.next + 1) S1 [] bw S' ∧ bw ++ (Tx.flat ((s.insts.drop i).flatMap (insL)) ++ (wEnd ++ [10])) = Tx.flat (fmtL s) ∧
            e.get 1 = .ref S.next 0 ∧ e.get 4 = .ref (S.next + 1) 0 ∧ e.get 39 = .c (.sl (s.insts.map insV)) ∧ e.get 40 = i64 s.insts.length ∧ e.get 41 = i64 i) ?_ s.insts.length _ _ ?_
          rotate_left
          · exact ⟨0, _, rfl, Nat.zero_le _, hc, hbw, by simp only [g1, go_sem, Nat.reduceEqDiff], by simp only [g4, go_sem, Nat.reduceEqDiff], by simp only [go_sem, ne_up1, ne_up2], by simp only [go_sem, ne_up1], by simp only [go_sem, Int.cast_ofNat_Int]⟩
          · rintro m' e S' ⟨i, bw, rfl, hi, hc, hbw, g1, g4, g39, g40, g41⟩
            have e1 := hbox hc
            have n1 := hnn hc
            have hsz : allSize 33 (s.insts.map insV) = true := allSize_map (s := 33) insV (fun _ => rfl) s.insts
            have hcnt : s.insts.length ≤ 32 := by have := g.insts.1; omega
            rcases Nat.lt_or_ge i s.insts.length with hlt | hge
            · have h1 : ((i : Int) < (s.insts.length : Int)) := by omega
              have h2 : ¬ ((i : Int) < 0) := by omega
              have h3 : (s.insts.map insV)[i]? = some (insV s.insts[i]) := by simp [hlt]
              have h5 := step_wrap i (by omega)
              have hst := flat_step (insL) hlt
              have hmem := List.getElem_mem hlt
              generalize s.insts[i] = p at *
              rw [hst] at hbw
              have hl := htot _ _ hbw
              simp only [List.length_append] at hl
              simp only [g4, g39, g40, g41, h1, h2, h3, hlt, hsz, List.length_map, Int.toNat_natCast, Option.map_some, go_sem, put_new, ne_up1, ne_up3, ne_up6, Nat.reduceAdd, Nat.reduceEqDiff, Nat.reduceLT, Nat.reduceLeDiff]
              refine wc_hc (hc.tmp _) (wc15 p (g.insts.2 p hmem) ⟨by have := (hpt p hmem).1; omega, by have := (hpt p hmem).2.1; omega, by have := (hpt p hmem).2.2; omega⟩ (hc.tmp _).known (hc.tmp _).wr (by omega)) fun T hc => ?_
              simp only [g1, g4, g39, g40, g41, h5, go_sem, ne_up1, ne_up2, ne_up3, ne_up4, ne_up5, ne_up6, Nat.reduceEqDiff, Nat.reduceLT]
              exact ⟨s.insts.length - (i + 1), by omega, i + 1, _, rfl, by omega, hc, by rw [← hbw]; simp, rfl⟩
            · have h1 : ¬ ((i : Int) < (s.insts.length : Int)) := by omega
              have hnil : Tx.flat ((s.insts.drop i).flatMap (insL)) = [] := by rw [List.drop_eq_nil_of_le hge]; rfl
              rw [hnil, List.nil_append] at hbw
              simp only [g4, g40, g41, h1, go_sem, Nat.reduceAdd, Nat.reduceMul, Nat.reduceEqDiff, Nat.reduceLT, Nat.reduceLeDiff]
              refine wc_line hc [wEnd] (by rw [jw_one]; have := htot _ _ hbw; simp only [List.length_append, List.length_cons, List.length_nil] at this; omega) (by simp [maxLenA]) (by rfl) (by rfl) (by rfl) fun T hc => ?_
              rw [jw_one] at hc
              rw [hbw] at hc
              simp only [g4, go_sem, Nat.reduceAdd, Nat.reduceEqDiff, Nat.reduceLT]
              refine wc_is (wc17 hc.wr) ?_
              by_cases hlen : (Tx.flat (fmtL s)).length ≤ 200000
              · have q1 : (((Tx.flat (fmtL s)).length : Int) > 200000) = False := eq_false (by omega)
                simp only [q1, g4, go_sem, Nat.reduceAdd, Nat.reduceEqDiff, Nat.reduceLT]
                refine (wc18 hc.wr (by rw [hfmt]; simp only [List.length_append, List.length_cons, List.length_nil]; omega) (by omega)).mono ?_
                rintro x T' ⟨rfl, bb, hbb, rfl⟩
                simp only [go_sem, ne_up1, Nat.reduceLT]
                refine ends_fwd ((hfwd hc).put (by omega) _) rfl ⟨?_, rfl⟩
                simp [fmtA, hv, hlen]
              · have q1 : (((Tx.flat (fmtL s)).length : Int) > 200000) = True := eq_true (by omega)
                simp only [q1, go_sem, ne_up1, Nat.reduceLT]
                refine ends_fwd (hfwd hc) rfl ⟨?_, rfl⟩
                simp [fmtA, hv, hlen]
end Go.Proofs.YtgjnimemofmncaaGreatDoor

namespace Go.Proofs.YtgjnimemofmncaaGreatDoor
open Go.Abs Go.Tx
set_option maxHeartbeats 4000000
set_option maxRecDepth 20000
abbrev awA : Bs := [111, 114, 99, 104, 101, 115, 116, 114, 105, 111, 110, 32, 49, 10, 110, 97, 109, 101, 32, 34, 97, 34, 10, 100, 105, 97, 108, 101, 99, 116, 32, 105, 109, 112, 117, 108, 115, 101, 10, 99, 104, 97, 110, 110, 101, 108, 115, 32, 49, 10, 112, 108, 97, 121, 32, 54, 32, 49, 50, 53, 32, 49, 50, 56, 32, 48, 32, 48, 10, 112, 97, 110, 115, 32, 48, 10, 111, 114, 100, 101, 114, 115, 32, 48, 10, 112, 97, 116, 116, 101, 114, 110, 32, 49, 10, 67, 45, 53, 32, 48, 48, 32, 46, 46, 46, 32, 65, 48, 70, 10, 101, 110, 100, 10]
abbrev awB : Bs := [111, 114, 99, 104, 101, 115, 116, 114, 105, 111, 110, 32, 49, 10, 110, 97, 109, 101, 32, 34, 97, 34, 10, 100, 105, 97, 108, 101, 99, 116, 32, 105, 109, 112, 117, 108, 115, 101, 10, 99, 104, 97, 110, 110, 101, 108, 115, 32, 49, 10, 112, 108, 97, 121, 32, 54, 32, 49, 50, 53, 32, 49, 50, 56, 32, 48, 32, 48, 10, 112, 97, 110, 115, 32, 48, 10, 111, 114, 100, 101, 114, 115, 32, 48, 10, 112, 97, 116, 116, 101, 114, 110, 32, 49, 10, 67, 45, 53, 32, 46, 46, 32, 46, 46, 46, 32, 65, 48, 70, 10, 101, 110, 100, 10]
def awS : SongV := { name := [97], dialect := 4, channels := 1, orders := [0], restart := 0, speed := 6, tempo := 125, global := 128, linear := false, pans := [0], patterns := [⟨1, [(61, 0, 0, 0, 11, 15)]⟩], samples := [], insts := [] }
theorem awA_read : songR (linesT awA) 0 = .bad 8 := by kernel_rfl
theorem awA_parse : parseT validS awA = (.zero, 2, 8) := by kernel_rfl
theorem awB_read : songR (linesT awB) 0 = .ok awS 10 := by kernel_rfl
theorem awB_parse : parseT validS awB = (awS, 0, 0) := by kernel_rfl
theorem awB_lines : (linesT awB).length = 10 := by kernel_rfl
theorem awS_valid : validS awS = true := by kernel_rfl
theorem awS_flat : Tx.flat (fmtL awS) = awB := by kernel_rfl
theorem awS_sized : Sized awS := by
  refine ⟨by decide, by decide, by decide, by decide, ?_, by decide, ?_⟩
  · intro p hp
    rw [List.mem_singleton.1 hp]
    decide
  · intro p hp
    cases hp
variable {m : Int} {S : St}
theorem wc9A (hk : S.known = KN m) : WC Tryz.prog 9 [str awA] (Is (.tup [.c (songV .zero), faultV 2 8]) S) S := by
  have := wc9 hk awA (by decide) (fun s i h => by rw [awA_read] at h; cases h)
  rwa [awA_parse] at this
theorem wc9B (hk : S.known = KN m) : WC Tryz.prog 9 [str awB] (Is (.tup [.c (songV awS), faultV 0 0]) S) S := by
  have := wc9 hk awB (by decide) (fun s i h => by rw [awB_read] at h; cases h; exact awS_sized)
  rwa [awB_parse] at this
theorem fmt_awS : fmtA awS = [str awB, i64 0] := by
  have h : (Tx.flat (fmtL awS)).length ≤ 200000 := by rw [awS_flat]; decide
  rw [fmtA, if_pos awS_valid, if_pos h, awS_flat]
theorem wc6S (hk : S.known = KN m) : WC Tryz.prog 6 [.c (songV awS)] (Is (.tup [str awB, i64 0]) S) S := by
  have := wc6 awS awS_sized hk
  rwa [fmt_awS] at this
theorem wc7B (hk : S.known = KN m) : WC Tryz.prog 7 [str awB] (Is (i64 10) S) S := by
  have := wc7 hk awB (by decide)
  rw [awB_lines] at this
  exact this
theorem held39 : Tryz.prog.stoodInHeld 39 = false := by kernel_rfl
theorem guard39 : Tryz.prog.eqGuardType Tryz.prog.depth 39 = false := by kernel_rfl
theorem feq_i3 (d : Nat) (a b : Int) : feq Tryz.prog (d + 1) 3 (.int .i64 a) (.int .i64 b) = some (a == b) := by
  simp [feq, Tryz.underlying3]
theorem feq_i30 (d : Nat) (a b : Int) : feq Tryz.prog (d + 1) 30 (.int .i64 a) (.int .i64 b) = some (a == b) := by
  simp [feq, Tryz.underlying30]
theorem feq_39 (a b c d : Int) : feq Tryz.prog Op.maxDepth 39 (.agg [.int .i64 a, .int .i64 b]) (.agg [.int .i64 c, .int .i64 d]) = some (a == c && b == d) := by
  show feq Tryz.prog (9998 + 1 + 1) 39 _ _ = _
  have h0 := held39
  have h2 := feq_i3 9998
  have h3 := feq_i30 9998
  unfold feq
  simp only [Tryz.underlying39, h0]
  cases h1 : a == c <;> cases h4 : b == d <;> simp [feqFields, fpart, ag3, sz3, ag30, sz30, h2, h3, h1, h4]
theorem wc5 (hk : S.known = KN m) : WC Tryz.prog 5 [] (Is (boolV true) S) S := by
  refine wc_fn (fn := Tryz.f5) (N := 40) (rs := [.tmp 0]) (by rfl) (by kernel_rfl) (by rfl) (by rfl) (by rfl) (by rfl) fun hS => ?_
  have hkn : ∀ o, (S.new o).known = KN m := fun _ => hk
  simp only [go_sem, Nat.reduceLT]
  refine wc_is (wc9A hk) ?_
  simp only [go_sem, ne_up1, ne_dn1, ne_up2, Nat.reduceAdd, Nat.reduceEqDiff, Nat.reduceLT, Nat.reduceLeDiff]
  refine wc_is (wc9B (by exact hk)) ?_
  simp only [go_sem, ne_up1, ne_dn1, ne_up2, ne_dn2, ne_dn3, Nat.reduceAdd, Nat.reduceEqDiff, Nat.reduceLT, Nat.reduceLeDiff]
  refine wc_is (wc6S (by exact hk)) ?_
  simp only [awB, List.append, guard39, feq_39, beq_self_eq_true, Bool.and_self, Bool.false_eq_true, if_false, go_sem, ne_up1, ne_dn1, ne_up2, ne_dn2, ne_up3, ne_dn3, ne_up4, Nat.reduceAdd, Nat.reduceEqDiff, Nat.reduceLT, Nat.reduceLeDiff]
  refine wc_is (wc7B (by exact hk)) ?_
  simp only [beq_self_eq_true, go_sem, ne_up1, ne_up2, Nat.reduceLT]
  exact ends_fwd (by repeat (first | exact Fwd.refl hS | assumption | refine Fwd.new ?_ _ | refine Fwd.put ?_ (by first | exact Nat.le_refl _ | exact Nat.le_succ _ | exact Nat.le_add_right _ _ | omega | (simp only [next_new, next_put]; omega)) _)) rfl ⟨rfl, rfl⟩
end Go.Proofs.YtgjnimemofmncaaGreatDoor
