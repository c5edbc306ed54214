/-
  The abstract machine, part U: the end of a call: rows that are frozen, objects that are forgotten; calls by their bodies.
-/
import Derived.Test.YtnnbhfoimaodhaaAbsT
namespace Go.Abs
set_option linter.unusedVariables false
set_option linter.unusedSimpArgs false

def unflat (ag : Bool) (s : Nat) : Nat → List FV → List FV
  | 0, _ => []
  | n + 1, l => (bif ag then .agg (l.take s) else l.headD .nili) :: unflat ag s n (l.drop s)

/-- A row whose cells are all pure, as a value. -/
def freezeRow (P : Program) (b off len s : Nat) (S : St) : Option FV :=
  match S.get b with
  | some (.blk cs _ T) =>
    match isAggT P T, szT P T, allPure cs with
    | some ag, some s', some l => if s' = s ∧ off + len * s ≤ cs.length ∧ (ag = false → s = 1) then some (.sl (unflat ag s len (l.drop off))) else none
    | _, _, _ => none
  | _ => none

def freezeV (P : Program) (v : AV) (S : St) : AV × St :=
  match v with
  | .sl b off len s _ =>
    match freezeRow P b off len s S with
    | some x => (.c x, S.put b .dead)
    | none => (v, S)
  | v => (v, S)

def freezeL (P : Program) : List AV → St → List AV × St
  | [], S => ([], S)
  | v :: r, S => ((freezeV P v S).1 :: (freezeL P r (freezeV P v S).2).1, (freezeL P r (freezeV P v S).2).2)

/-- Components that are structs are frozen part by part. -/
def freezeP (P : Program) (v : AV) (S : St) : AV × St :=
  match v with
  | .agg cs => (mkAgg (freezeL P cs S).1, (freezeL P cs S).2)
  | v => freezeV P v S

def freezePL (P : Program) : List AV → St → List AV × St
  | [], S => ([], S)
  | v :: r, S => ((freezeP P v S).1 :: (freezePL P r (freezeP P v S).2).1, (freezePL P r (freezeP P v S).2).2)

def freezeA (P : Program) (v : AV) (S : St) : AV × St :=
  match v with
  | .tup l => (.tup (freezePL P l S).1, (freezePL P l S).2)
  | v => freezeP P v S

/-- What a call made is forgotten. -/
def St.pop (S : St) (B : Nat) : St := { S with next := B, get := fun b => bif Nat.blt b B then S.get b else none }

/-- Does a value lead to nothing of the call's own? -/
def AV.under (B : Nat) : Nat → AV → Bool
  | _, .c _ => true
  | _, .fref _ _ => true
  | _, .gref _ => true
  | _, .fz t _ => Nat.blt t B
  | _, .undef => true
  | _, .ref b _ => Nat.blt b B
  | _, .sl b _ _ _ _ => Nat.blt b B
  | _, .map b => Nat.blt b B
  | _, .iter b => Nat.blt b B
  | 0, _ => false
  | n + 1, .iface _ v => v.under B n
  | n + 1, .agg cs => cs.all (AV.under B n)
  | n + 1, .tup cs => cs.all (AV.under B n)
  | n + 1, .clo _ first caps => first.all (AV.under B n) && caps.all (AV.under B n)

/-- A value that leads to nothing of the call's own. -/
inductive Low (B : Nat) : AV → Prop
  | c {v : FV} : Low B (.c v)
  | fref {e : FV} {off : Nat} : Low B (.fref e off)
  | gref {g : Nat} : Low B (.gref g)
  | undef : Low B .undef
  | fz {t : Nat} {xs : List FV} (h : t < B) : Low B (.fz t xs)
  | ref {b off : Nat} (h : b < B) : Low B (.ref b off)
  | sl {b off len s : Nat} {full : Bool} (h : b < B) : Low B (.sl b off len s full)
  | map {b : Nat} (h : b < B) : Low B (.map b)
  | iter {b : Nat} (h : b < B) : Low B (.iter b)
  | iface {t : Nat} {v : AV} (h : Low B v) : Low B (.iface t v)
  | agg {cs : List AV} (h : ∀ x ∈ cs, Low B x) : Low B (.agg cs)
  | tup {cs : List AV} (h : ∀ x ∈ cs, Low B x) : Low B (.tup cs)
  | clo {f : Nat} {first caps : List AV} (h1 : ∀ x ∈ first, Low B x) (h2 : ∀ x ∈ caps, Low B x) : Low B (.clo f first caps)

theorem blt_lt {a b : Nat} (h : Nat.blt a b = true) : a < b := by simpa [Nat.blt_eq] using h

theorem low_of_under {B : Nat} : ∀ {n : Nat} {v : AV}, v.under B n = true → Low B v
  | _, .c _, _ => .c
  | _, .fref _ _, _ => .fref
  | _, .gref _, _ => .gref
  | _, .undef, _ => .undef
  | 0, .fz _ _, h => .fz (blt_lt h)
  | 0, .ref _ _, h => .ref (blt_lt h)
  | 0, .sl _ _ _ _ _, h => .sl (blt_lt h)
  | 0, .map _, h => .map (blt_lt h)
  | 0, .iter _, h => .iter (blt_lt h)
  | n + 1, .fz _ _, h => .fz (blt_lt h)
  | n + 1, .ref _ _, h => .ref (blt_lt h)
  | n + 1, .sl _ _ _ _ _, h => .sl (blt_lt h)
  | n + 1, .map _, h => .map (blt_lt h)
  | n + 1, .iter _, h => .iter (blt_lt h)
  | n + 1, .iface _ v, h => .iface (low_of_under (n := n) h)
  | n + 1, .agg cs, h => .agg fun x hx => low_of_under (n := n) (List.all_eq_true.1 h x hx)
  | n + 1, .tup cs, h => .tup fun x hx => low_of_under (n := n) (List.all_eq_true.1 h x hx)
  | n + 1, .clo f a b, h => by
    simp only [AV.under, Bool.and_eq_true] at h
    exact .clo (fun x hx => low_of_under (n := n) (List.all_eq_true.1 h.1 x hx)) (fun x hx => low_of_under (n := n) (List.all_eq_true.1 h.2 x hx))

def Ob.Low (B : Nat) : Ob → Prop
  | .blk cs _ _ => ∀ x ∈ cs, Abs.Low B x
  | .map es _ _ => ∀ e ∈ es, Abs.Low B e.2
  | .miter m _ _ => m < B
  | _ => True

/-- May what was made from the number 'B' on be forgotten? -/
def PopOk (B : Nat) (S : St) : Prop := (∀ b o, b < B → S.get b = some o → o.Low B) ∧ (∀ t ∈ S.spare, t < B)

/-- The state is closed: it leads nowhere but into itself. -/
def Shut (S : St) : Prop := S.Wf ∧ PopOk S.next S

/-! ### Forgetting -/
theorem inv_forget {G : Gh} {S S' : St} {w : World} (h : Inv G S w) (hg : ∀ b o, S'.get b = some o → S.get b = some o) (hn : S'.next = S.next) (hs : S'.spare = S.spare) :
    Inv G S' w ∧ Ext G S w G S' w := by
  refine ⟨⟨fun b o hb => by rw [hn]; exact h.wf b o (hg b o hb), h.cells, fun b ob hb hl => h.obs b ob (hg b ob hb) hl, fun b b' ob ob' B B' h1 h2 => h.apart b b' ob ob' B B' (hg _ _ h1) (hg _ _ h2), ?_, ?_, by rw [hs]; exact h.nodup, fun b hb => h.fresh b (by rw [← hn]; exact hb), h.born⟩,
    ⟨.refl G, by rw [hn]; exact Nat.le_refl _, Nat.le_refl _, fun _ _ _ => rfl, ?_, rfl, rfl, rfl⟩⟩
  · intro t ht
    rw [hs] at ht
    obtain ⟨g, st, en, s, k1, k2, k5, k6⟩ := h.spare t ht
    exact ⟨g, st, en, s, k1, k2, k5, fun b ob B hb hl hr => k6 b ob B (hg _ _ hb) hl hr⟩
  · intro t t' g x x' h1 h2
    rw [hs] at h1 h2
    exact h.tags t t' g x x' h1 h2
  · intro g ho
    rcases ho with ⟨b, ob, B, h1, h2, h3, h4⟩ | ⟨t, ht, x, hx⟩
    · exact .inl (.inl ⟨b, ob, B, hg _ _ h1, h2, h3, h4⟩)
    · exact .inl (.inr ⟨t, by rw [← hs]; exact ht, x, hx⟩)

theorem low_rel {G : Gh} {S : St} {w : World} (h : Inv G S w) {v : AV} {x : Value} (hx : RelA G v x) : Low S.next v := by
  have lt : ∀ {b : Nat} {B : Base}, G.ρ b = some B → b < S.next := fun {b B} hb => by
    rcases Nat.lt_or_ge b S.next with h1 | h1
    · exact h1
    · rw [(h.fresh b h1).1] at hb; cases hb
  have idx : ∀ {l : List AV} {vs : List Value}, l.length = vs.length → (∀ (i : Nat) (a : AV) (b : Value), l[i]? = some a → vs[i]? = some b → Low S.next a) → ∀ y ∈ l, Low S.next y := by
    intro l vs hl hi y hy
    obtain ⟨i, hi'⟩ := List.mem_iff_getElem?.1 hy
    have : i < vs.length := by rw [← hl]; exact (List.getElem?_eq_some_iff.1 hi').1
    exact hi i y vs[i] hi' (by simp [this])
  induction hx with
  | c _ => exact .c
  | ref hb => exact .ref (lt hb)
  | fref _ _ => exact .fref
  | gref _ => exact .gref
  | sl hb _ _ _ _ _ => exact .sl (lt hb)
  | @fz tag _ _ _ _ _ _ ht _ _ _ _ _ _ =>
    refine .fz ?_
    rcases Nat.lt_or_ge tag S.next with h1 | h1
    · exact h1
    · rw [(h.fresh tag h1).2] at ht; cases ht
  | map hb => exact .map (lt hb)
  | iter hb => exact .iter (lt hb)
  | clo hf hc _ _ ih1 ih2 => exact .clo (idx hf ih1) (idx hc ih2)
  | iface _ ih => exact .iface ih
  | agg hl _ ih => exact .agg (idx hl ih)
  | tup hl _ ih => exact .tup (idx hl ih)
  | undef => exact .undef

theorem inv_shut {G : Gh} {S : St} {w : World} (h : Inv G S w) : Shut S := by
  refine ⟨h.wf, fun b o hb ho => ?_, fun t ht => ?_⟩
  · cases o with
    | blk cs ro T =>
      obtain ⟨B, hB, _, _, C, T', lo, hi, _, _, hc, _⟩ := h.obs b _ ho rfl
      intro x hx
      obtain ⟨i, hi'⟩ := List.mem_iff_getElem?.1 hx
      obtain ⟨v, _, hr, _⟩ := hc i x hi'
      exact low_rel h hr
    | map es bs ck =>
      obtain ⟨B, hB, es', _, hl, hc, _⟩ := h.obs b _ ho rfl
      intro e he
      obtain ⟨i, hi'⟩ := List.mem_iff_getElem?.1 he
      have : i < es'.length := by rw [hl]; exact (List.getElem?_eq_some_iff.1 hi').1
      exact low_rel h (hc i es'[i] e (by simp [this]) hi').2
    | miter m ck seen =>
      obtain ⟨B, hB, ⟨Bm, hm, _⟩, _⟩ := h.obs b _ ho rfl
      show m < S.next
      rcases Nat.lt_or_ge m S.next with h1 | h1
      · exact h1
      · rw [(h.fresh m h1).1] at hm; cases hm
    | _ => trivial
  · obtain ⟨g, st, en, s, k, _⟩ := h.spare t ht
    rcases Nat.lt_or_ge t S.next with h1 | h1
    · exact h1
    · rw [(h.fresh t h1).2] at k; cases k

/-- The ghost, forgetting. -/
def Gh.pop (G : Gh) (B : Nat) : Gh := { G with ρ := fun b => if b < B then G.ρ b else none, τ := fun b => if b < B then G.τ b else none }

theorem RelA.pop {G : Gh} {B : Nat} {v : AV} {x : Value} (hv : Low B v) (h : RelA G v x) : RelA (G.pop B) v x := by
  have rr : ∀ {b : Nat} {X : Base}, b < B → G.ρ b = some X → (G.pop B).ρ b = some X := fun hb hx => by simp [Gh.pop, hb, hx]
  induction h with
  | c h => exact .c h
  | ref hb => cases hv; exact .ref (rr ‹_› hb)
  | fref hF hR => exact .fref hF hR
  | gref g => exact .gref g
  | sl hb ha hl hr hf hk => cases hv; exact .sl (rr ‹_› hb) ha hl hr hf hk
  | fz ht hc hs0 hs hF hR ho => cases hv; exact .fz (by simp [Gh.pop, *]) hc hs0 hs hF hR ho
  | map hb => cases hv; exact .map (rr ‹_› hb)
  | iter hb => cases hv; exact .iter (rr ‹_› hb)
  | clo hf hc h1 h2 ih1 ih2 =>
    cases hv with
    | clo k1 k2 => exact .clo hf hc (fun i a b ha hb => ih1 i a b ha hb (k1 a (List.mem_of_getElem? ha))) (fun i a b ha hb => ih2 i a b ha hb (k2 a (List.mem_of_getElem? ha)))
  | iface h ih => cases hv; exact .iface (ih ‹_›)
  | agg hl h ih => cases hv with | agg k => exact .agg hl (fun i a b ha hb => ih i a b ha hb (k a (List.mem_of_getElem? ha)))
  | tup hl h ih => cases hv with | tup k => exact .tup hl (fun i a b ha hb => ih i a b ha hb (k a (List.mem_of_getElem? ha)))
  | undef => exact .undef

theorem pop_get {S : St} {B b : Nat} {o : Ob} (h : (S.pop B).get b = some o) : b < B ∧ S.get b = some o := by
  simp only [St.pop] at h
  cases hlt : Nat.blt b B with
  | true => rw [hlt] at h; exact ⟨blt_lt hlt, h⟩
  | false => rw [hlt] at h; cases h

theorem inv_pop {G G1 : Gh} {S S1 : St} {w w1 : World} (h0 : Inv G S w) (h : Inv G1 S1 w1) (hX : Ext G S w G1 S1 w1) (hp : PopOk S.next S1) :
    Inv (G1.pop S.next) (S1.pop S.next) w1 ∧ Ext G S w (G1.pop S.next) (S1.pop S.next) w1 := by
  have rr : ∀ {b : Nat} {X : Base}, b < S.next → G1.ρ b = some X → (G1.pop S.next).ρ b = some X := fun hb hx => by simp [Gh.pop, hb, hx]
  have rr' : ∀ {b : Nat} {X : Base}, (G1.pop S.next).ρ b = some X → b < S.next ∧ G1.ρ b = some X := by
    intro b X hx
    simp only [Gh.pop] at hx
    split at hx
    · exact ⟨‹_›, hx⟩
    · cases hx
  have tt' : ∀ {b : Nat} {X}, (G1.pop S.next).τ b = some X → b < S.next ∧ G1.τ b = some X := by
    intro b X hx
    simp only [Gh.pop] at hx
    split at hx
    · exact ⟨‹_›, hx⟩
    · cases hx
  have hspare : (S1.pop S.next).spare = S1.spare := rfl
  constructor
  · refine ⟨fun b o hb => (pop_get hb).1, h.cells, ?_, ?_, ?_, ?_, h.nodup, ?_, ?_⟩
    · intro b ob hb hl
      obtain ⟨hlt, hb⟩ := pop_get hb
      obtain ⟨X, hX1, hr⟩ := h.obs b ob hb hl
      refine ⟨X, rr hlt hX1, ?_⟩
      have hlow := hp.1 b ob hlt hb
      cases ob with
      | blk cs ro T =>
        obtain ⟨k1, k2, C, T', lo, hi, k3, k4, k5, k6, k7⟩ := hr
        exact ⟨k1, k2, C, T', lo, hi, k3, k4, fun i a ha => let ⟨v, v1, v2, v3⟩ := k5 i a ha; ⟨v, v1, v2.pop (hlow a (List.mem_of_getElem? ha)), v3⟩, k6, k7⟩
      | map es bs ck =>
        obtain ⟨es', k1, k2, k3, k4⟩ := hr
        exact ⟨es', k1, k2, fun i e p he hpp => ⟨(k3 i e p he hpp).1, (k3 i e p he hpp).2.pop (hlow p (List.mem_of_getElem? hpp))⟩, k4⟩
      | siter s pos => exact hr
      | miter m ck seen =>
        obtain ⟨⟨Bm, k1, k2⟩, k3⟩ := hr
        exact ⟨⟨Bm, rr hlow k1, k2⟩, k3⟩
      | niter => exact hr
      | dead => trivial
    · intro b b' ob ob' X X' h1 h2 l1 l2 r1 r2 e
      exact h.apart b b' ob ob' X X' (pop_get h1).2 (pop_get h2).2 l1 l2 (rr' r1).2 (rr' r2).2 e
    · intro t ht
      obtain ⟨g, st, en, s, k1, k2, k5, k6⟩ := h.spare t ht
      have hlt := hp.2 t ht
      exact ⟨g, st, en, s, by simp [Gh.pop, hlt, k1], k2, k5, fun b ob X hb hl hr => k6 b ob X (pop_get hb).2 hl (rr' hr).2⟩
    · intro t t' g x x' h1 h2 r1 r2
      exact h.tags t t' g x x' h1 h2 (tt' r1).2 (tt' r2).2
    · intro b hb
      have : ¬ b < S.next := Nat.not_lt.2 hb
      simp [Gh.pop, this]
    · intro b X hb
      exact h.born b X (rr' hb).2
  · have low : ∀ {b : Nat} {X : Base}, G.ρ b = some X → b < S.next := fun {b X} hb => by
      rcases Nat.lt_or_ge b S.next with h1 | h1
      · exact h1
      · rw [(h0.fresh b h1).1] at hb; cases hb
    refine ⟨⟨hX.le.F, fun b X hb => rr (low hb) (hX.le.ρ b X hb), fun t x ht => ?_⟩, Nat.le_refl _, hX.size, hX.same, ?_, hX.os, hX.tape, hX.output⟩
    · have : t < S.next := by
        rcases Nat.lt_or_ge t S.next with h1 | h1
        · exact h1
        · rw [(h0.fresh t h1).2] at ht; cases ht
      have := hX.le.τ t x ht
      simp [Gh.pop, *]
    · intro g ho
      apply hX.own
      rcases ho with ⟨b, ob, X, h1, h2, h3, h4⟩ | ⟨t, ht, x, hx⟩
      · exact .inl ⟨b, ob, X, (pop_get h1).2, h2, (rr' h3).2, h4⟩
      · exact .inr ⟨t, ht, x, (tt' hx).2⟩

/-! ### Freezing -/
theorem unflat_spec {s : Nat} (ag : Bool) : ∀ (n : Nat) (l : List FV), n * s ≤ l.length → (ag = false → s = 1 ∧ ∀ x ∈ l, x.cells = [x]) →
    (unflat ag s n l).length = n ∧ (∀ x ∈ unflat ag s n l, x.cells.length = s) ∧ flatF (unflat ag s n l) = l.take (n * s)
  | 0, l, _, _ => by simp [unflat, flatF]
  | n + 1, l, hl, ha => by
    rw [Nat.add_mul] at hl
    obtain ⟨k1, k2, k3⟩ := unflat_spec ag n (l.drop s) (by simp; omega) (fun e => ⟨(ha e).1, fun x hx => (ha e).2 x (List.mem_of_mem_drop hx)⟩)
    have hhead : (bif ag then FV.agg (l.take s) else l.headD .nili).cells = l.take s := by
      cases ag with
      | true => rfl
      | false =>
        obtain ⟨h1, h2⟩ := ha rfl
        subst h1
        match l, hl with
        | x :: r, _ => simpa using h2 x (by simp)
        | [], hl => simp at hl
    refine ⟨by simp [unflat, k1], ?_, ?_⟩
    · intro x hx
      simp only [unflat, List.mem_cons] at hx
      rcases hx with rfl | hx
      · rw [hhead]; simp; omega
      · exact k2 x hx
    · simp only [unflat, flatF, hhead, k3]
      rw [Nat.add_mul, Nat.one_mul, Nat.add_comm (n * s) s, List.take_add]

theorem freezeRow_sound {P : Program} {G : Gh} {S : St} {w : World} (h : Inv G S w) {b off len s : Nat} {full : Bool} {fv : FV} {x : Value} (he : freezeRow P b off len s S = some fv)
    (hx : RelA G (.sl b off len s full) x) : ∃ G', Inv G' (S.put b .dead) w ∧ Ext G S w G' (S.put b .dead) w ∧ RelF G'.F fv x := by
  unfold freezeRow at he
  split at he
  case h_2 => cases he
  rename_i cs ro T hb
  split at he
  case h_2 => cases he
  rename_i ag s' l hag hsz hl
  split at he
  case isFalse => cases he
  rename_i hc
  obtain ⟨rfl, hlen, hs1⟩ := hc
  cases he
  have hcs := allPure_spec hl
  cases hx with
  | @sl _ _ _ _ _ B a cap hB ha hlc hr hf hkn =>
    obtain ⟨B', hB', hknl, hroomB, C, T', lo, hi, hC, hszC, hcell, hfz, hFz⟩ := h.obs b _ hb rfl
    rw [hB] at hB'
    cases hB'
    obtain ⟨d1, d2, d3⟩ := inv_del h hb rfl hB
    have hcl : cs.length = l.length := by rw [hcs]; simp
    -- the new ghost
    let F' : Nat → Nat → Option Value := fun g o => if g = B.g ∧ B.o ≤ o ∧ o < B.o + cs.length then C[o]? else G.F g o
    have hFF : ∀ g o v, G.F g o = some v → F' g o = some v := by
      intro g o v hv
      simp only [F']
      split
      · rename_i hg
        obtain ⟨rfl, _⟩ := hg
        have := h.cells _ _ _ hv
        rwa [cell_at hC] at this
      · exact hv
    have hle : G.le { G with F := F' } := ⟨hFF, fun _ _ h => h, fun _ _ h => h⟩
    have hnotown : ∀ b' ob' B', (S.put b .dead).get b' = some ob' → ob'.live = true → G.ρ b' = some B' → B'.g ≠ B.g := fun b' ob' B' h1 h2 h3 e =>
      d3 (.inl ⟨b', ob', B', h1, h2, h3, e⟩)
    have hinv : Inv { G with F := F' } (S.put b .dead) w := by
      refine ⟨d1.wf, ?_, ?_, d1.apart, ?_, d1.tags, d1.nodup, d1.fresh, d1.born⟩
      · intro g o v hv
        simp only [F'] at hv
        split at hv
        · rename_i hg
          obtain ⟨rfl, _⟩ := hg
          rw [cell_at hC]; exact hv
        · exact h.cells _ _ _ hv
      · intro b' ob' h1 h2
        obtain ⟨B', k1, k2⟩ := d1.obs b' ob' h1 h2
        exact ⟨B', k1, k2.keep hle (fun j v hj => by
          simp only [F'] at hj
          rw [if_neg (fun hg => hnotown b' ob' B' h1 h2 k1 hg.1)] at hj
          exact hj) rfl⟩
      · intro t ht
        obtain ⟨g, st, en, s2, k1, k2, k5, k6⟩ := d1.spare t ht
        refine ⟨g, st, en, s2, k1, k2, fun j v hj => ?_, k6⟩
        simp only [F'] at hj
        rw [if_neg (fun hg => d3 (.inr ⟨t, ht, _, by rw [k1, hg.1]⟩))] at hj
        exact k5 j v hj
    have hext : Ext G S w { G with F := F' } (S.put b .dead) w := ⟨hle, d2.next, d2.size, d2.same, d2.own, d2.os, d2.tape, d2.output⟩
    refine ⟨{ G with F := F' }, hinv, hext, ?_⟩
    have hpure : ∀ i y, l[i]? = some y → ∃ v, C[B.o + i]? = some v ∧ RelF F' y v ∧ oneCell v = true := by
      intro i y hy
      obtain ⟨v, v1, v2, v3⟩ := hcell i (.c y) (by rw [hcs]; simp [hy])
      exact ⟨v, v1, (relA_c v2).mono hFF, v3⟩
    have hsing : ∀ y ∈ l, y.cells = [y] := by
      intro y hy
      obtain ⟨i, hi⟩ := List.mem_iff_getElem?.1 hy
      obtain ⟨v, v1, v2, v3⟩ := hpure i y hi
      cases y <;> first | rfl | (cases v2; simp [oneCell] at v3)
    obtain ⟨u1, u2, u3⟩ := unflat_spec (s := s') ag len (l.drop off) (by simp; omega) (fun e => ⟨hs1 e, fun y hy => hsing y (List.mem_of_mem_drop hy)⟩)
    by_cases hlen0 : len = 0
    · subst hlen0
      simpa [unflat] using RelF.sl0 (F := F') a cap
    · have hcap : cap ≠ 0 := by omega
      rw [ha hcap]
      have hget : ∀ i y, (flatF (unflat ag s' len (l.drop off)))[i]? = some y → l[off + i]? = some y ∧ i < len * s' := by
        intro i y hy
        rw [u3, List.getElem?_take] at hy
        split at hy
        · rename_i hi
          rw [List.getElem?_drop] at hy
          exact ⟨hy, hi⟩
        · cases hy
      have := RelF.sl (F := F') (unflat ag s' len (l.drop off)) B.g (B.o + off) s' cap (fun i => C.getD (B.o + off + i) undef) u2 (by rw [u1]; exact hlc)
        (fun i y hy => by
          obtain ⟨y1, y2⟩ := hget i y hy
          obtain ⟨v, v1, v2, v3⟩ := hpure _ y y1
          simp only [F']
          rw [if_pos ⟨trivial, by omega, by omega⟩, Nat.add_assoc B.o off i, v1, Array.getD_eq_getD_getElem?, v1]; rfl)
        (fun i y hy => by
          obtain ⟨y1, y2⟩ := hget i y hy
          obtain ⟨v, v1, v2, v3⟩ := hpure _ y y1
          rw [Nat.add_assoc B.o off i, Array.getD_eq_getD_getElem?, v1]; exact v2)
        (fun i y hy => by
          obtain ⟨y1, y2⟩ := hget i y hy
          obtain ⟨v, v1, v2, v3⟩ := hpure _ y y1
          rw [Nat.add_assoc B.o off i, Array.getD_eq_getD_getElem?, v1]; exact v3)
      rw [u1] at this
      exact this

theorem freezeV_sound {P : Program} {G : Gh} {S : St} {w : World} (h : Inv G S w) {v : AV} {x : Value} (hx : RelA G v x) :
    ∃ G', Inv G' (freezeV P v S).2 w ∧ Ext G S w G' (freezeV P v S).2 w ∧ RelA G' (freezeV P v S).1 x := by
  unfold freezeV
  split
  · rename_i b off len s full
    split
    · rename_i fv hfv
      obtain ⟨G', k1, k2, k3⟩ := freezeRow_sound h hfv hx
      exact ⟨G', k1, k2, .c k3⟩
    · exact ⟨G, h, .refl G S w, hx⟩
  · exact ⟨G, h, .refl G S w, hx⟩

theorem relL_cons {G : Gh} {v : AV} {x : Value} {l : List AV} {vs : List Value} (h : RelA G v x) (k : RelL G l vs) : RelL G (v :: l) (x :: vs) :=
  ⟨by simp [k.len], fun i a b ha hb => by
    cases i with
    | zero => simp at ha hb; subst ha; subst hb; exact h
    | succ i => simp at ha hb; exact k.rel i a b ha hb⟩

theorem relL_uncons {G : Gh} {v : AV} {l : List AV} {vs : List Value} (h : RelL G (v :: l) vs) : ∃ x r, vs = x :: r ∧ RelA G v x ∧ RelL G l r := by
  match vs, h with
  | x :: r, h => exact ⟨x, r, rfl, h.rel 0 _ _ rfl rfl, by simpa using h.len, fun i a b ha hb => h.rel (i + 1) a b (by simpa using ha) (by simpa using hb)⟩
  | [], h => have := h.len; simp at this

theorem freezeL_sound {P : Program} {w : World} : ∀ {l : List AV} {G : Gh} {S : St} {vs : List Value}, Inv G S w → RelL G l vs →
    ∃ G', Inv G' (freezeL P l S).2 w ∧ Ext G S w G' (freezeL P l S).2 w ∧ RelL G' (freezeL P l S).1 vs
  | [], G, S, vs, h, hr => ⟨G, h, .refl G S w, hr⟩
  | v :: r, G, S, vs, h, hr => by
    obtain ⟨x, xs, rfl, hx, hr'⟩ := relL_uncons hr
    obtain ⟨G1, k1, k2, k3⟩ := freezeV_sound (P := P) h hx
    obtain ⟨G2, m1, m2, m3⟩ := freezeL_sound (P := P) (l := r) k1 (hr'.mono k2.le)
    exact ⟨G2, m1, k2.trans m2, relL_cons (k3.mono m2.le) m3⟩

theorem freezeP_sound {P : Program} {G : Gh} {S : St} {w : World} (h : Inv G S w) {v : AV} {x : Value} (hx : RelA G v x) :
    ∃ G', Inv G' (freezeP P v S).2 w ∧ Ext G S w G' (freezeP P v S).2 w ∧ RelA G' (freezeP P v S).1 x := by
  unfold freezeP
  split
  · cases hx with
    | agg hl hr =>
      obtain ⟨G', k1, k2, k3⟩ := freezeL_sound (P := P) h ⟨hl, hr⟩
      exact ⟨G', k1, k2, mkAgg_rel k3⟩
  · exact freezeV_sound h hx

theorem freezePL_sound {P : Program} {w : World} : ∀ {l : List AV} {G : Gh} {S : St} {vs : List Value}, Inv G S w → RelL G l vs →
    ∃ G', Inv G' (freezePL P l S).2 w ∧ Ext G S w G' (freezePL P l S).2 w ∧ RelL G' (freezePL P l S).1 vs
  | [], G, S, vs, h, hr => ⟨G, h, .refl G S w, hr⟩
  | v :: r, G, S, vs, h, hr => by
    obtain ⟨x, xs, rfl, hx, hr'⟩ := relL_uncons hr
    obtain ⟨G1, k1, k2, k3⟩ := freezeP_sound (P := P) h hx
    obtain ⟨G2, m1, m2, m3⟩ := freezePL_sound (P := P) (l := r) k1 (hr'.mono k2.le)
    exact ⟨G2, m1, k2.trans m2, relL_cons (k3.mono m2.le) m3⟩

theorem freezeA_sound {P : Program} {G : Gh} {S : St} {w : World} (h : Inv G S w) {v : AV} {x : Value} (hx : RelA G v x) :
    ∃ G', Inv G' (freezeA P v S).2 w ∧ Ext G S w G' (freezeA P v S).2 w ∧ RelA G' (freezeA P v S).1 x := by
  unfold freezeA
  split
  · cases hx with
    | tup hl hr =>
      obtain ⟨G', k1, k2, k3⟩ := freezePL_sound (P := P) h ⟨hl, hr⟩
      exact ⟨G', k1, k2, .tup k3.len k3.rel⟩
  · exact freezeP_sound h hx

/-! ### A call by its body -/
/-- The state behind a call: as it is, or with what the call made forgotten. -/
def Left (B : Nat) (R : CX → St → Prop) (v : AV) (S : St) : Prop :=
  R (.ret v) S ∨ (v.under B 4 = true ∧ PopOk B S ∧ R (.ret v) (S.pop B))

def ends (P : Program) (B : Nat) (R : CX → St → Prop) (v : AV) (S : St) : Prop :=
  Left B R v S ∨ Left B R (freezeA P v S).1 (freezeA P v S).2

def bodyQ (P : Program) (fn : Func) (B : Nat) (R : CX → St → Prop) : AQ
  | .normal, env, S =>
    match resultA P fn env S with
    | some v => ends P B R v S
    | none => False
  | .ret, env, S =>
    match resultA P fn env S with
    | some v => ends P B R v S
    | none => False
  | .panic v, _, S => R (.panic v) S
  | .exit _, _, _ => False

theorem left_sound {G G1 : Gh} {S S1 : St} {w w1 : World} {R : CX → St → Prop} {v : AV} {x : Value} (h0 : Inv G S w) (h : Inv G1 S1 w1) (hX : Ext G S w G1 S1 w1) (hx : RelA G1 v x)
    (hL : Left S.next R v S1) : CPost G S w R (.returned x) w1 := by
  rcases hL with hL | ⟨h1, h2, h3⟩
  · exact ⟨.ret v, S1, G1, hL, hx, h, hX⟩
  · obtain ⟨k1, k2⟩ := inv_pop h0 h hX h2
    exact ⟨.ret v, _, _, h3, hx.pop (low_of_under h1), k1, k2⟩

theorem ends_sound {P : Program} {G G1 : Gh} {S S1 : St} {w w1 : World} {R : CX → St → Prop} {v : AV} {x : Value} (h0 : Inv G S w) (h : Inv G1 S1 w1) (hX : Ext G S w G1 S1 w1) (hx : RelA G1 v x)
    (hL : ends P S.next R v S1) : CPost G S w R (.returned x) w1 := by
  rcases hL with hL | hL
  · exact left_sound h0 h hX hx hL
  · obtain ⟨G2, k1, k2, k3⟩ := freezeA_sound (P := P) h hx
    exact left_sound h0 k1 (hX.trans k2) k3 hL

theorem wc_of_body' {P : Program} {f : FuncId} {fn : Func} {c : Code} (hf : P.funcs[f]? = some fn) (hn : (fn.name == "runtime.NumGoroutine") = false) (hb : fn.body = some c)
    {args : List AV} {R : CX → St → Prop} {S : St} (hlen : args.length ≤ fn.ntmps) (h : Shut S → W P fn.ntmps c (bodyQ P fn S.next R) (envOf args 0) S) : WC P f args R S := by
  intro G vals w hr hI
  have hrun : Sem.run P (callFunc f vals.toArray) w = .ok (.enter f vals.toArray) w := by
    have hn' : ¬ fn.name = "runtime.NumGoroutine" := by simpa using hn
    simp [callFunc, program, hf, hn', hb, Sem.run]
  unfold Upon
  rw [hrun]
  simp only
  refine calls_of_wp hf hb ?_
  have hvl : vals.length = args.length := hr.len.symm
  have hE : EnvRel fn.ntmps G (envOf args 0) (vals.toArray ++ Array.replicate (fn.ntmps - vals.toArray.size) undef) := by
    refine ⟨by simp; omega, fun t => ?_⟩
    show RelA G (envOf args 0 t) _
    rw [envOf_get]
    by_cases ht : 0 ≤ t ∧ t < 0 + args.length
    · rw [if_pos ht]
      have ht1 : t < args.length := by omega
      have ht2 : t < vals.length := by omega
      have e1 : args.getD (t - 0) .undef = args[t] := by simp [ht1]
      have e2 : (vals.toArray ++ Array.replicate (fn.ntmps - vals.toArray.size) undef).getD t undef = vals[t] := by
        rw [Array.getD_eq_getD_getElem?, Array.getElem?_append]
        simp [ht2]
      rw [e1, e2]
      exact hr.rel t args[t] vals[t] (by simp) (by simp)
    · rw [if_neg ht]; exact .undef
  refine wp_mono (h (inv_shut hI) G { tmps := vals.toArray ++ Array.replicate (fn.ntmps - vals.toArray.size) undef, defers := [] } w hE hI) ?_
  rintro e a w' ⟨x, env', S', G', k1, k2, k3, k4, k5, k6⟩
  have fin : ∀ {v : AV}, resultA P fn env' S' = some v → ends P S.next R v S' →
      a.defers = [] ∧ ∃ y, (results fn a.tmps).run P w' = .ok y w' ∧ CPost G S w R (.returned y) w' := by
    intro v hv hR
    obtain ⟨y, y1, y2⟩ := resultA_sound (P := P) k3 k4 hv
    exact ⟨k6, y, y1, ends_sound hI k4 k5 y2 hR⟩
  cases x with
  | normal =>
    cases e with
    | normal =>
      simp only [bodyQ] at k1
      split at k1
      · rename_i v hv; exact fin hv k1
      · exact k1.elim
    | _ => exact k2.elim
  | ret =>
    cases e with
    | ret =>
      simp only [bodyQ] at k1
      split at k1
      · rename_i v hv; exact fin hv k1
      · exact k1.elim
    | _ => exact k2.elim
  | exit i => exact k1.elim
  | panic v =>
    cases e with
    | panic ch =>
      obtain ⟨y, rfl, hy⟩ := k2
      exact ⟨k6, .panic v, _, G', k1, ⟨y, rfl, hy⟩, k4, k5⟩
    | _ => exact k2.elim

/-! ### Forgetting, read -/
theorem St.ext {S S' : St} (h1 : S.next = S'.next) (h2 : ∀ b, S.get b = S'.get b) (h3 : S.spare = S'.spare) (h4 : S.dirty = S'.dirty) : S = S' := by
  cases S; cases S'
  simp only [St.mk.injEq]
  exact ⟨h1, funext h2, h3, h4⟩

theorem pop_new {S : St} {B : Nat} {o : Ob} (h : B ≤ S.next) : (S.new o).pop B = S.pop B := by
  refine St.ext rfl (fun b => ?_) rfl rfl
  simp only [St.pop, St.new]
  cases hb : Nat.blt b B with
  | false => rfl
  | true => rw [beq_ne (a := S.next) (b := b) (by have := blt_lt hb; omega)]; rfl

theorem pop_put {S : St} {B b : Nat} {o : Ob} (h : B ≤ b) : (S.put b o).pop B = S.pop B := by
  refine St.ext rfl (fun b' => ?_) rfl rfl
  simp only [St.pop, St.put]
  cases hb : Nat.blt b' B with
  | false => rfl
  | true => rw [beq_ne (a := b) (b := b') (by have := blt_lt hb; omega)]; rfl

theorem pop_put_lt {S : St} {B b : Nat} {o : Ob} (h : b < B) : (S.put b o).pop B = (S.pop B).put b o := by
  refine St.ext rfl (fun b' => ?_) rfl rfl
  simp only [St.pop, St.put]
  by_cases e : b = b'
  · subst e
    have : Nat.blt b B = true := by simpa [Nat.blt_eq] using h
    simp [this]
  · rw [beq_ne e]; rfl

theorem pop_self {S : St} (h : S.Wf) : S.pop S.next = S := by
  refine St.ext rfl (fun b => ?_) rfl rfl
  simp only [St.pop]
  cases hb : Nat.blt b S.next with
  | true => rfl
  | false =>
    cases hg : S.get b with
    | none => rfl
    | some o => have := h b o hg; rw [show Nat.blt b S.next = true from by simpa [Nat.blt_eq] using this] at hb; cases hb

theorem popOk_new {S : St} {B : Nat} {o : Ob} (h : B ≤ S.next) (hp : PopOk B S) : PopOk B (S.new o) := by
  refine ⟨fun b ob hb hg => ?_, hp.2⟩
  rw [St.get_new, if_neg (by omega)] at hg
  exact hp.1 b ob hb hg

theorem popOk_put {S : St} {B b : Nat} {o : Ob} (h : B ≤ b ∨ o.Low B) (hp : PopOk B S) : PopOk B (S.put b o) := by
  refine ⟨fun b' ob hb hg => ?_, hp.2⟩
  rw [St.get_put] at hg
  split at hg
  · subst_vars
    cases hg
    rcases h with h | h
    · omega
    · exact h
  · exact hp.1 b' ob hb hg

theorem next_new (S : St) (o : Ob) : (S.new o).next = S.next + 1 := rfl
theorem next_put (S : St) (b : Nat) (o : Ob) : (S.put b o).next = S.next := rfl
theorem wf_new {S : St} {o : Ob} (h : S.Wf) : (S.new o).Wf := fun b ob hb => by
  rw [St.get_new] at hb
  rw [next_new]
  split at hb
  · omega
  · have := h b ob hb; omega
theorem wf_put {S : St} {b : Nat} {o : Ob} (h : S.Wf) (hb : b < S.next) : (S.put b o).Wf := fun b' ob hg => by
  rw [St.get_put] at hg
  rw [next_put]
  split at hg
  · omega
  · exact h b' ob hg

end Go.Abs
