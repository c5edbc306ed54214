/-
  The abstract machine, part N: slices of rows and strings, copy, conversions.
-/
import Derived.Test.YtnnbhfoimaodhaaAbsM
import Derived.Lib.ConvBytes
import Derived.Laws.BytesArg
namespace Go.Abs
set_option linter.unusedVariables false
set_option linter.unusedSimpArgs false

def RelO (G : Gh) : Option AV → Option Value → Prop
  | none, none => True
  | some a, some v => RelA G a v
  | _, _ => False

theorem optA_rel {N : Nat} {G : Gh} {env : Env} {a : Act} (hE : EnvRel N G env a.tmps) {x : Option Operand} {v : Option AV} (h : optA env x = some v) : RelO G v (x.map a.eval) := by
  cases x with
  | none => simp [optA] at h; subst h; trivial
  | some x =>
    simp only [optA] at h
    split at h
    · rename_i y hy; cases h; exact opnd_rel hE hy
    · cases h

theorem sliceBound_run {P : Program} {k : IntKind} {i : Int} {y : Nat} {code : BoundsCode} (h0 : 0 ≤ i) (h1 : i.toNat ≤ y) (w : World) :
    Sem.run P (Instr.sliceBound (.int k i) y code) w = .ok i.toNat w := by
  have : i ≤ (y : Int) := by omega
  simp [Instr.sliceBound, asIntOf, h0, this]

theorem boundA_run {P : Program} {G : Gh} {d y l : Nat} {x : Option AV} {vx : Option Value} (h : boundA d x = some l) (hr : RelO G x vx) (hy : l ≤ y) (code : BoundsCode) (w : World) :
    (x = none ∧ vx = none ∧ l = d) ∨ ∃ v, vx = some v ∧ ∀ z : Nat, l ≤ z → Sem.run P (Instr.sliceBound v z code) w = .ok l w := by
  unfold boundA at h
  split at h
  · cases h
    cases vx with
    | none => exact .inl ⟨rfl, rfl, rfl⟩
    | some v => exact hr.elim
  · rename_i k i
    split at h
    · rename_i h0
      cases h
      cases vx with
      | none => exact hr.elim
      | some v =>
        cases relA_c hr
        exact .inr ⟨_, rfl, fun z hz => sliceBound_run h0 hz w⟩
    · cases h
  · cases h

/-- The bounds of a slice expression without a third index. -/
theorem bounds_run {P : Program} {G : Gh} {isSlice : Bool} {len cap l h : Nat} {lo hi : Option AV} {vlo vhi : Option Value} (h1 : boundA 0 lo = some l) (h2 : boundA len hi = some h)
    (r1 : RelO G lo vlo) (r2 : RelO G hi vhi) (hlh : l ≤ h) (hc : h ≤ cap) (hlc : len ≤ cap) (w : World) :
    Sem.run P (Instr.sliceBounds isSlice len cap vlo vhi none) w = .ok (l, h, cap) w := by
  have e2 := boundA_run (P := P) h2 r2 (Nat.le_refl h) (if isSlice then BoundsCode.sliceAcap else .sliceAlen) w
  have e1 := boundA_run (P := P) h1 r1 (Nat.le_refl l) BoundsCode.sliceB w
  rcases e2 with ⟨rfl, rfl, rfl⟩ | ⟨v2, rfl, k2⟩ <;> rcases e1 with ⟨rfl, rfl, rfl⟩ | ⟨v1, rfl, k1⟩
  · simp [Instr.sliceBounds]
  · simp [Instr.sliceBounds, k1 _ hlh]
  · simp [Instr.sliceBounds, k2 _ hc]
  · simp [Instr.sliceBounds, k2 _ hc, k1 _ hlh]

theorem bounds3_run {P : Program} {G : Gh} {len cap l h m : Nat} {k : IntKind} {lo hi : Option AV} {vlo vhi : Option Value} (h1 : boundA 0 lo = some l) (h2 : boundA len hi = some h)
    (hsome : hi ≠ none) (r1 : RelO G lo vlo) (r2 : RelO G hi vhi) (hlh : l ≤ h) (hm : h ≤ m) (hc : m ≤ cap) (w : World) :
    Sem.run P (Instr.sliceBounds true len cap vlo vhi (some (.int k m))) w = .ok (l, h, m) w := by
  have e2 := boundA_run (P := P) h2 r2 (Nat.le_refl h) BoundsCode.slice3B w
  have e1 := boundA_run (P := P) h1 r1 (Nat.le_refl l) BoundsCode.slice3C w
  have e3 := sliceBound_run (P := P) (k := k) (i := (m : Int)) (y := cap) (code := .slice3Acap) (by omega) (by simpa using hc) w
  rcases e2 with ⟨rfl, rfl, rfl⟩ | ⟨v2, rfl, k2⟩
  · exact absurd rfl hsome
  · rcases e1 with ⟨rfl, rfl, rfl⟩ | ⟨v1, rfl, k1⟩
    · simp [Instr.sliceBounds, e3, k2 _ hm]
    · simp [Instr.sliceBounds, e3, k2 _ hm, k1 _ hlh]

theorem flatF_take {xs : List FV} : ∀ {n i : Nat} {a : FV}, (flatF (xs.take n))[i]? = some a → (flatF xs)[i]? = some a := by
  induction xs with
  | nil => intro n i a h; simpa using h
  | cons x r ih =>
    intro n i a h
    cases n with
    | zero => simp [flatF] at h
    | succ n =>
      simp only [List.take_succ_cons, flatF] at h ⊢
      rw [List.getElem?_append] at h ⊢
      split at h
      · rename_i hl; rw [if_pos hl]; exact h
      · rename_i hl; rw [if_neg hl]; exact ih h

theorem flatF_drop {s : Nat} {xs : List FV} : ∀ {n i : Nat}, (∀ x ∈ xs, x.cells.length = s) → n ≤ xs.length → (flatF (xs.drop n))[i]? = (flatF xs)[n * s + i]? := by
  induction xs with
  | nil =>
    intro n i h hn
    have : n = 0 := by simpa using hn
    subst this
    simp
  | cons x r ih =>
    intro n i h hn
    cases n with
    | zero => simp
    | succ n =>
      have hx := h x (by simp)
      simp only [List.drop_succ_cons, flatF]
      rw [List.getElem?_append, if_neg (by rw [hx, Nat.add_mul]; omega), hx, ih (fun y hy => h y (by simp [hy])) (by simpa using hn)]
      congr 1
      rw [Nat.add_mul]; omega

/-- A part of a frozen row. -/
theorem sub_frozen {F : Nat → Nat → Option Value} {xs : List FV} {g o s : Nat} {vals : Nat → Value} (hs : ∀ x ∈ xs, x.cells.length = s)
    (hF : ∀ (i : Nat) (a : FV), (flatF xs)[i]? = some a → F g (o + i) = some (vals i)) (hR : ∀ (i : Nat) (a : FV), (flatF xs)[i]? = some a → RelF F a (vals i))
    (ho : ∀ (i : Nat) (a : FV), (flatF xs)[i]? = some a → oneCell (vals i) = true) {l h cap : Nat} (hlh : l ≤ h) (hh : h ≤ xs.length) (hc : xs.length ≤ cap) :
    RelF F (.sl ((xs.take h).drop l)) (.slice (if cap = l then some ⟨g, o, none⟩ else some ⟨g, o + l * s, none⟩) (h - l) (cap - l)) := by
  by_cases e : l = h
  · subst e
    have : (xs.take l).drop l = [] := by simp
    rw [this]
    split
    · simpa using RelF.sl0 (F := F) ⟨g, o, none⟩ (cap - l)
    · simpa using RelF.sl0 (F := F) ⟨g, o + l * s, none⟩ (cap - l)
  · rw [if_neg (by omega)]
    have hlen : ((xs.take h).drop l).length = h - l := by simp; omega
    have htk : ∀ x ∈ xs.take h, x.cells.length = s := fun x hx => hs x (List.mem_of_mem_take hx)
    have hget : ∀ (i : Nat) (a : FV), (flatF ((xs.take h).drop l))[i]? = some a → (flatF xs)[l * s + i]? = some a := fun i a ha => by
      rw [flatF_drop htk (by simp; omega)] at ha
      exact flatF_take ha
    have := RelF.sl (F := F) ((xs.take h).drop l) g (o + l * s) s (cap - l) (fun i => vals (l * s + i)) (fun x hx => htk x (List.mem_of_mem_drop hx)) (by rw [hlen]; omega)
      (fun i a ha => by rw [Nat.add_assoc]; exact hF _ a (hget i a ha)) (fun i a ha => hR _ a (hget i a ha)) (fun i a ha => ho _ a (hget i a ha))
    rw [hlen] at this
    exact this

theorem slice_slice_run {P : Program} {t e : TypeId} {s l h m : Nat} {a : Option Addr} {len cap : Nat} {vlo vhi vmx : Option Value} (hu : P.underlying t = some (.slice e)) (hs : szT P e = some s) (w : World)
    (hb : Sem.run P (Instr.sliceBounds true len cap vlo vhi vmx) w = .ok (l, h, m) w) :
    Sem.run P (Instr.sliceAt t (.slice a len cap) vlo vhi vmx) w = .ok (.slice (if m = l then a else a.map (·.add (l * s))) (h - l) (m - l)) w := by
  simp [Instr.sliceAt, Instr.slice, run_underlying P hu, run_sizeOf P hs, hb]

theorem slice_sound {P : Program} {G : Gh} {S : St} {w : World} (h : Inv G S w) {t : TypeId} {x v : AV} {lo hi mx : Option AV} {vx : Value} {vlo vhi vmx : Option Value}
    (he : aSlice P t x lo hi mx S = some v) (hx : RelA G x vx) (r1 : RelO G lo vlo) (r2 : RelO G hi vhi) (r3 : RelO G mx vmx) :
    ∃ y, Sem.run P (Instr.sliceAt t vx vlo vhi vmx) w = .ok y w ∧ RelA G v y := by
  have hmx : mx = none → vmx = none := fun e => by subst e; cases vmx with | none => rfl | some _ => exact r3.elim
  unfold aSlice at he
  split at he
  · rename_i hu
    split at he
    · rename_i s
      split at he
      · rename_i l hh h1 h2
        split at he
        · rename_i hc
          cases he
          rw [hmx rfl]
          cases relA_c hx with
          | str bs =>
            have hsz : bs.size = bs.data.toList.length := by rw [Array.length_toList]; rfl
            have hb := bounds_run (P := P) (isSlice := false) (cap := bs.size) (len := bs.size) h1 (by rw [hsz]; exact h2) r1 r2 hc.1 (by rw [hsz]; exact hc.2) (Nat.le_refl _) w
            refine ⟨.string (bs.extract l hh), by simp [Instr.sliceAt, Instr.slice, run_underlying P hu, hb], ?_⟩
            have e1 : (bs.extract l hh).data.toList = (bs.data.toList.take hh).drop l := by
              simp [ByteArray.data_extract, List.extract_eq_take_drop, List.drop_take]
            rw [← e1]
            exact .c (.str _)
        · cases he
      · cases he
    · cases he
  · rename_i e hu
    split at he
    case h_2 => cases he
    rename_i s hs
    split at he
    · -- nil
      split at he
      · rename_i h1 h2
        cases he
        rw [hmx rfl]
        cases relA_c hx
        have hb := bounds_run (P := P) (isSlice := true) (cap := 0) (len := 0) h1 h2 r1 r2 (Nat.le_refl _) (Nat.le_refl _) (Nat.le_refl _) w
        exact ⟨_, slice_slice_run hu hs w hb, by simpa using RelA.c (G := G) .nils⟩
      · cases he
    · -- frozen
      rename_i xs
      split at he
      · rename_i l hh h1 h2
        split at he
        · rename_i hc
          cases he
          rw [hmx rfl]
          have hsz := allSize_iff.1 hc.2.2
          cases relA_c hx with
          | sl0 a cap =>
            have hh0 : hh = 0 := by simpa using hc.2.1
            subst hh0
            have hl0 : l = 0 := by omega
            subst hl0
            have hb := bounds_run (P := P) (isSlice := true) (cap := cap) (len := 0) h1 h2 r1 r2 (Nat.le_refl _) (Nat.zero_le _) (Nat.zero_le _) w
            refine ⟨_, slice_slice_run hu hs w hb, ?_⟩
            simp only [List.take_nil, List.drop_nil, Option.map_some, Nat.sub_self]
            split
            · exact .c (.sl0 _ _)
            · exact .c (.sl0 _ _)
          | sl _ g o s' cap vals hs' hcap hF hR ho =>
            have hb := bounds_run (P := P) (isSlice := true) (cap := cap) (len := xs.length) h1 h2 r1 r2 hc.1 (by omega) hcap w
            refine ⟨_, slice_slice_run hu hs w hb, ?_⟩
            have := sub_frozen (F := G.F) hsz hF hR ho hc.1 hc.2.1 hcap
            simp only [Option.map_some, Addr_add]
            exact .c this
        · cases he
      · cases he
    · -- frozen, with a room
      rename_i tag xs
      split at he
      · rename_i l hh h1 h2
        split at he
        · rename_i hc
          cases he
          rw [hmx rfl]
          have hsz := allSize_iff.1 hc.2.2
          cases hx with
          | @fz _ _ g o cap s' vals hτ hcap hs0 hs' hF hR ho =>
            have hb := bounds_run (P := P) (isSlice := true) (cap := cap) (len := xs.length) h1 h2 r1 r2 hc.1 (by omega) hcap w
            refine ⟨_, slice_slice_run hu hs w hb, ?_⟩
            have := sub_frozen (F := G.F) hsz hF hR ho hc.1 hc.2.1 hcap
            simp only [Option.map_some, Addr_add]
            exact .c this
        · cases he
      · cases he
    · -- a row of the state
      rename_i b off len s' full
      split at he
      case h_2 => cases he
      rename_i cs ro T hb
      split at he
      case h_2 => cases he
      rename_i l hh h1 h2
      split at he
      case isFalse => cases he
      rename_i hc
      obtain ⟨rfl, hs0, hlh, hf1, hf2⟩ := hc
      cases hx with
      | @sl _ _ _ _ _ B a cap hB ha hl hr hf hkn =>
        obtain ⟨B', hB', hknl, hroomB, _⟩ := h.obs b _ hb rfl
        rw [hB] at hB'
        cases hB'
        have hhcap : hh ≤ cap := by
          cases hfull : full with
          | true => have := hf hfull; have := hf1 hfull; omega
          | false =>
            have k1 := hkn hfull
            have k2 := hf2 hfull
            have k3 : hh * s' ≤ cap * s' := by omega
            exact Nat.le_of_mul_le_mul_right k3 (by omega)
        have hsub : ∀ m, l ≤ m → m ≤ cap → l * s' + (m - l) * s' = m * s' := fun m h1 h2 => by rw [← Nat.add_mul]; congr 1; omega
        have haddr : ∀ m, m ≤ cap → l ≤ m → m - l ≠ 0 → (if m = l then a else a.add (l * s')) = ⟨B.g, B.o + (off + l * s'), none⟩ := fun m h1 h2 h3 => by
          rw [if_neg (by omega), ha (by omega), Addr_add, Nat.add_assoc]
        split at he
        · -- no third index
          rw [hmx rfl]
          have hbr := bounds_run (P := P) (isSlice := true) (cap := cap) (len := len) h1 h2 r1 r2 hlh hhcap hl w
          have hrun := slice_slice_run (a := some a) hu hs w hbr
          have e1 : (if cap = l then some a else (some a).map (·.add (l * s'))) = some (if cap = l then a else a.add (l * s')) := by split <;> rfl
          rw [e1] at hrun
          have hs1 := hsub cap (by omega) (Nat.le_refl _)
          split at he
          · rename_i hcut
            split at he
            · rename_i hend
              cases he
              have hcl := hf hcut.1
              refine ⟨_, hrun, .sl hB (haddr cap (Nat.le_refl _) (by omega)) (by omega) (by omega) (by simp) (fun _ => ?_)⟩
              rw [hknl, Nat.add_assoc, hs1, hcl]; exact hend
            · cases he
          · rename_i hcut
            cases he
            refine ⟨_, hrun, .sl hB (haddr cap (Nat.le_refl _) (by omega)) (by omega) (by omega) (fun hfull => ?_) (fun hfull => ?_)⟩
            · have := hf hfull
              have : hh = len := Classical.byContradiction fun hne => hcut ⟨hfull, hne⟩
              omega
            · have := hkn hfull
              omega
        · -- a third index
          rename_i k m
          split at he
          · rename_i hm
            cases he
            obtain ⟨hm, hsm⟩ := hm
            subst hm
            cases vmx with
            | none => exact r3.elim
            | some vm =>
              cases relA_c r3
              have hsome : hi ≠ none := fun e => by
                subst e
                simp at hsm
              have hbr := bounds3_run (P := P) (cap := cap) (len := len) (k := k) h1 h2 hsome r1 r2 hlh (Nat.le_refl _) hhcap w
              have hrun := slice_slice_run (a := some a) hu hs w hbr
              have e1 : (if hh = l then some a else (some a).map (·.add (l * s'))) = some (if hh = l then a else a.add (l * s')) := by split <;> rfl
              rw [e1] at hrun
              have hs1 := hsub hh hlh hhcap
              have hms : hh * s' ≤ cap * s' := Nat.mul_le_mul_right _ hhcap
              exact ⟨_, hrun, .sl hB (haddr hh hhcap hlh) (Nat.le_refl _) (by omega) (fun _ => rfl) (by simp)⟩
          · cases he
        · cases he
    · cases he
  · cases he

end Go.Abs
