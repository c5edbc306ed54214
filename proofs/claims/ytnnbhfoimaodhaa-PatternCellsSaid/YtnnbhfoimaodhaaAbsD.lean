/-
  The abstract machine, part D: what an abstract state says of a world.
-/
import Derived.Test.YtnnbhfoimaodhaaAbsC
namespace Go.Abs
set_option linter.unusedVariables false
set_option linter.unusedSimpArgs false

structure Base where
  g : Nat
  o : Nat
  kn : Nat
  room : Nat

/-- What is known beside the state: cells that are never written again; where each number lies; the spare rooms. -/
structure Gh where
  F : Nat → Nat → Option Value
  ρ : Nat → Option Base
  τ : Nat → Option (Nat × Nat × Nat × Nat)

def flatF : List FV → List FV
  | [] => []
  | x :: r => x.cells ++ flatF r

theorem flat_eq (xs : List FV) : flat xs = (flatF xs).map .c := by
  induction xs with
  | nil => rfl
  | cons x r ih => simp [flat, flatF, ih]

theorem flatF_length {s : Nat} : ∀ {xs : List FV}, (∀ x ∈ xs, x.cells.length = s) → (flatF xs).length = xs.length * s
  | [], _ => by simp [flatF]
  | x :: r, h => by
    simp only [flatF, List.length_append, List.length_cons]
    rw [h x (by simp), flatF_length fun y hy => h y (by simp [hy])]
    rw [Nat.add_mul]; omega

theorem allSize_iff {s : Nat} : ∀ {xs : List FV}, allSize s xs = true ↔ ∀ x ∈ xs, x.cells.length = s
  | [] => by simp [allSize]
  | x :: r => by
    simp only [allSize, Bool.and_eq_true, List.mem_cons, forall_eq_or_imp, allSize_iff (xs := r)]
    constructor
    · rintro ⟨h, hr⟩; exact ⟨Nat.eq_of_beq_eq_true h, hr⟩
    · rintro ⟨h, hr⟩; exact ⟨by rw [h]; simp, hr⟩

inductive RelF (F : Nat → Nat → Option Value) : FV → Value → Prop
  | bool (b : Bool) : RelF F (.bool b) (.bool b)
  | int (k : IntKind) (n : Int) : RelF F (.int k n) (.int k n)
  | str (s : ByteArray) : RelF F (.str s.data.toList) (.string s)
  | nilp : RelF F .nilp (.pointer none)
  | nils : RelF F .nils (.slice none 0 0)
  | nilm : RelF F .nilm (.map none)
  | nilf : RelF F .nilf .nilFunc
  | nili : RelF F .nili .nilIface
  | fn (f : Nat) : RelF F (.fn f) (.func (.func f) #[] #[])
  | agg (cs : List FV) (vs : List Value) (hl : cs.length = vs.length) (h : ∀ (i : Nat) (a : FV) (b : Value), cs[i]? = some a → vs[i]? = some b → RelF F a b) :
    RelF F (.agg cs) (.agg vs.toArray)
  | iface (t : Nat) (a : FV) (v : Value) (h : RelF F a v) : RelF F (.iface t a) (.iface t v)
  | sl0 (a : Addr) (cap : Nat) : RelF F (.sl []) (.slice (some a) 0 cap)
  | sl (xs : List FV) (g o s cap : Nat) (vals : Nat → Value) (hs : ∀ x ∈ xs, x.cells.length = s) (hc : xs.length ≤ cap)
    (hF : ∀ (i : Nat) (a : FV), (flatF xs)[i]? = some a → F g (o + i) = some (vals i))
    (hR : ∀ (i : Nat) (a : FV), (flatF xs)[i]? = some a → RelF F a (vals i)) (ho : ∀ (i : Nat) (a : FV), (flatF xs)[i]? = some a → oneCell (vals i) = true) :
    RelF F (.sl xs) (.slice (some ⟨g, o, none⟩) xs.length cap)

inductive RelA (G : Gh) : AV → Value → Prop
  | c {v : FV} {x : Value} (h : RelF G.F v x) : RelA G (.c v) x
  | ref {b off : Nat} {B : Base} (h : G.ρ b = some B) : RelA G (.ref b off) (.pointer (some ⟨B.g, B.o + off, none⟩))
  | fref {e : FV} {off g o : Nat} {vals : Nat → Value} (hF : ∀ (i : Nat) (a : FV), e.cells[i]? = some a → G.F g (o + i) = some (vals i))
    (hR : ∀ (i : Nat) (a : FV), e.cells[i]? = some a → RelF G.F a (vals i)) : RelA G (.fref e off) (.pointer (some ⟨g, o + off, none⟩))
  | gref (g : Nat) : RelA G (.gref g) (.pointer (some ⟨g, 0, none⟩))
  | sl {b off len s : Nat} {full : Bool} {B : Base} {a : Addr} {cap : Nat} (h : G.ρ b = some B) (ha : cap ≠ 0 → a = ⟨B.g, B.o + off, none⟩)
    (hl : len ≤ cap) (hr : off + cap * s ≤ B.room) (hf : full = true → cap = len) (hk : full = false → B.kn ≤ off + cap * s) :
    RelA G (.sl b off len s full) (.slice (some a) len cap)
  | fz {tag : Nat} {xs : List FV} {g o cap s : Nat} {vals : Nat → Value} (h : G.τ tag = some (g, o + xs.length * s, o + cap * s, s)) (hc : xs.length ≤ cap)
    (hs0 : 0 < s) (hs : ∀ x ∈ xs, x.cells.length = s) (hF : ∀ (i : Nat) (a : FV), (flatF xs)[i]? = some a → G.F g (o + i) = some (vals i))
    (hR : ∀ (i : Nat) (a : FV), (flatF xs)[i]? = some a → RelF G.F a (vals i)) (ho : ∀ (i : Nat) (a : FV), (flatF xs)[i]? = some a → oneCell (vals i) = true) :
    RelA G (.fz tag xs) (.slice (some ⟨g, o, none⟩) xs.length cap)
  | map {b : Nat} {B : Base} (h : G.ρ b = some B) : RelA G (.map b) (.map (some B.g))
  | iter {b : Nat} {B : Base} (h : G.ρ b = some B) : RelA G (.iter b) (.pointer (some ⟨B.g, 0, none⟩))
  | clo {f : Nat} {first caps : List AV} {fs cs : List Value} (hf : first.length = fs.length) (hc : caps.length = cs.length)
    (h1 : ∀ (i : Nat) (a : AV) (b : Value), first[i]? = some a → fs[i]? = some b → RelA G a b)
    (h2 : ∀ (i : Nat) (a : AV) (b : Value), caps[i]? = some a → cs[i]? = some b → RelA G a b) : RelA G (.clo f first caps) (.func (.func f) fs.toArray cs.toArray)
  | iface {t : Nat} {a : AV} {v : Value} (h : RelA G a v) : RelA G (.iface t a) (.iface t v)
  | agg {cs : List AV} {vs : List Value} (hl : cs.length = vs.length) (h : ∀ (i : Nat) (a : AV) (b : Value), cs[i]? = some a → vs[i]? = some b → RelA G a b) :
    RelA G (.agg cs) (.agg vs.toArray)
  | tup {cs : List AV} {vs : List Value} (hl : cs.length = vs.length) (h : ∀ (i : Nat) (a : AV) (b : Value), cs[i]? = some a → vs[i]? = some b → RelA G a b) :
    RelA G (.tup cs) (.tuple vs.toArray)
  | undef {v : Value} : RelA G .undef v

/-- Related lists. -/
structure RelL (G : Gh) (as : List AV) (vs : List Value) : Prop where
  len : as.length = vs.length
  rel : ∀ (i : Nat) (a : AV) (b : Value), as[i]? = some a → vs[i]? = some b → RelA G a b

theorem RelF.mono {F F' : Nat → Nat → Option Value} (hF : ∀ g o v, F g o = some v → F' g o = some v) {a : FV} {v : Value} (h : RelF F a v) : RelF F' a v := by
  induction h with
  | bool b => exact .bool b
  | int k n => exact .int k n
  | str s => exact .str s
  | nilp => exact .nilp
  | nils => exact .nils
  | nilm => exact .nilm
  | nilf => exact .nilf
  | nili => exact .nili
  | fn f => exact .fn f
  | agg cs vs hl h ih => exact .agg cs vs hl ih
  | iface t a v h ih => exact .iface t a v ih
  | sl0 a cap => exact .sl0 a cap
  | sl xs g o s cap vals hs hc hF' hR ho ih => exact .sl xs g o s cap vals hs hc (fun i a h => hF _ _ _ (hF' i a h)) ih ho

structure Gh.le (G G' : Gh) : Prop where
  F : ∀ g o v, G.F g o = some v → G'.F g o = some v
  ρ : ∀ b B, G.ρ b = some B → G'.ρ b = some B
  τ : ∀ t x, G.τ t = some x → G'.τ t = some x

theorem Gh.le.refl (G : Gh) : G.le G := ⟨fun _ _ _ h => h, fun _ _ h => h, fun _ _ h => h⟩
theorem Gh.le.trans {G G' G'' : Gh} (h : G.le G') (h' : G'.le G'') : G.le G'' :=
  ⟨fun _ _ _ k => h'.F _ _ _ (h.F _ _ _ k), fun _ _ k => h'.ρ _ _ (h.ρ _ _ k), fun _ _ k => h'.τ _ _ (h.τ _ _ k)⟩

theorem RelA.mono {G G' : Gh} (hG : G.le G') {a : AV} {v : Value} (h : RelA G a v) : RelA G' a v := by
  induction h with
  | c h => exact .c (h.mono hG.F)
  | ref h => exact .ref (hG.ρ _ _ h)
  | fref hF hR => exact .fref (fun i a h => hG.F _ _ _ (hF i a h)) (fun i a h => (hR i a h).mono hG.F)
  | gref g => exact .gref g
  | sl h ha hl hr hf hk => exact .sl (hG.ρ _ _ h) ha hl hr hf hk
  | fz h hc hs0 hs hF hR ho => exact .fz (hG.τ _ _ h) hc hs0 hs (fun i a h => hG.F _ _ _ (hF i a h)) (fun i a h => (hR i a h).mono hG.F) ho
  | map h => exact .map (hG.ρ _ _ h)
  | iter h => exact .iter (hG.ρ _ _ h)
  | clo hf hc h1 h2 ih1 ih2 => exact .clo hf hc ih1 ih2
  | iface h ih => exact .iface ih
  | agg hl h ih => exact .agg hl ih
  | tup hl h ih => exact .tup hl ih
  | undef => exact .undef

theorem RelL.mono {G G' : Gh} (hG : G.le G') {as : List AV} {vs : List Value} (h : RelL G as vs) : RelL G' as vs :=
  ⟨h.len, fun i a b ha hb => (h.rel i a b ha hb).mono hG⟩

def Ob.live : Ob → Bool
  | .dead => false
  | _ => true

def ObRel (G : Gh) (B : Base) (w : World) : Ob → Prop
  | .blk cs ro T => B.kn = cs.length ∧ cs.length ≤ B.room ∧ ∃ C T' lo hi, w.heap[B.g]? = some (.cells C T' (lo, hi)) ∧ B.o + B.room ≤ C.size ∧
      (∀ (i : Nat) (a : AV), cs[i]? = some a → ∃ v, C[B.o + i]? = some v ∧ RelA G a v ∧ oneCell v = true) ∧
      (∀ j, B.o + ro ≤ j → j < B.o + B.room → ¬ (lo ≤ j ∧ j < hi)) ∧ (∀ j v, G.F B.g j = some v → j < B.o + ro)
  | .map ents born clock => ∃ es : List MapEntry, w.heap[B.g]? = some (.map es.toArray clock) ∧ es.length = ents.length ∧
      (∀ (i : Nat) (e : MapEntry) (p : FV × AV), es[i]? = some e → ents[i]? = some p → RelF G.F p.1 e.key ∧ RelA G p.2 e.val) ∧ (∀ j v, G.F B.g j = some v → False) ∧ es.map (·.born) = born
  | .siter s pos => w.heap[B.g]? = some (.stringIter ⟨s.toArray⟩ pos) ∧ (∀ j v, G.F B.g j = some v → False)
  | .miter m clock seen => (∃ Bm, G.ρ m = some Bm ∧ w.heap[B.g]? = some (.mapIter (some Bm.g) clock seen.toArray clock)) ∧ (∀ j v, G.F B.g j = some v → False)
  | .niter => w.heap[B.g]? = some (.mapIter none 0 #[] 0) ∧ (∀ j v, G.F B.g j = some v → False)
  | .dead => True

def St.Wf (S : St) : Prop := ∀ b o, S.get b = some o → b < S.next

structure Inv (G : Gh) (S : St) (w : World) : Prop where
  wf : S.Wf
  cells : ∀ g o v, G.F g o = some v → w.cell? ⟨g, o, none⟩ = some v
  obs : ∀ b ob, S.get b = some ob → ob.live = true → ∃ B, G.ρ b = some B ∧ ObRel G B w ob
  apart : ∀ b b' ob ob' B B', S.get b = some ob → S.get b' = some ob' → ob.live = true → ob'.live = true → G.ρ b = some B → G.ρ b' = some B' → B.g = B'.g → b = b'
  spare : ∀ t ∈ S.spare, ∃ g st en s, G.τ t = some (g, st, en, s) ∧ (∃ C T lo hi, w.heap[g]? = some (.cells C T (lo, hi)) ∧ en ≤ C.size ∧
      (∀ j, st ≤ j → j < en → ¬ (lo ≤ j ∧ j < hi))) ∧ (∀ j v, G.F g j = some v → j < st) ∧
      (∀ b ob B, S.get b = some ob → ob.live = true → G.ρ b = some B → B.g ≠ g)
  tags : ∀ t t' g x x', t ∈ S.spare → t' ∈ S.spare → G.τ t = some (g, x) → G.τ t' = some (g, x') → t = t'
  nodup : S.spare.Nodup
  fresh : ∀ b, S.next ≤ b → G.ρ b = none ∧ G.τ b = none
  born : ∀ b B, G.ρ b = some B → B.g < w.heap.size

def Own (G : Gh) (S : St) (g : Nat) : Prop :=
  (∃ b ob B, S.get b = some ob ∧ ob.live = true ∧ G.ρ b = some B ∧ B.g = g) ∨ ∃ t ∈ S.spare, ∃ x, G.τ t = some (g, x)

structure Ext (G : Gh) (S : St) (w : World) (G' : Gh) (S' : St) (w' : World) : Prop where
  le : G.le G'
  next : S.next ≤ S'.next
  size : w.heap.size ≤ w'.heap.size
  same : ∀ g, g < w.heap.size → ¬ Own G S g → w'.heap[g]? = w.heap[g]?
  own : ∀ g, Own G' S' g → Own G S g ∨ w.heap.size ≤ g
  os : w'.os = w.os
  tape : w'.tape = w.tape
  output : w'.output = w.output

theorem Ext.refl (G : Gh) (S : St) (w : World) : Ext G S w G S w :=
  ⟨.refl G, Nat.le_refl _, Nat.le_refl _, fun _ _ _ => rfl, fun _ h => .inl h, rfl, rfl, rfl⟩

theorem Ext.trans {G G1 G2 : Gh} {S S1 S2 : St} {w w1 w2 : World} (h : Ext G S w G1 S1 w1) (k : Ext G1 S1 w1 G2 S2 w2) : Ext G S w G2 S2 w2 where
  le := h.le.trans k.le
  next := Nat.le_trans h.next k.next
  size := Nat.le_trans h.size k.size
  same := fun g hg hn => by
    rw [k.same g (Nat.lt_of_lt_of_le hg h.size) fun ho => ?_, h.same g hg hn]
    rcases h.own g ho with h1 | h1
    · exact hn h1
    · omega
  own := fun g ho => by
    rcases k.own g ho with h1 | h1
    · rcases h.own g h1 with h2 | h2
      · exact .inl h2
      · exact .inr h2
    · exact .inr (Nat.le_trans h.size h1)
  os := k.os.trans h.os
  tape := k.tape.trans h.tape
  output := k.output.trans h.output

/-- Drawing an order changes nothing that is spoken of. -/
def drew (w : World) : World := { w with drawn := w.drawn + 1 }

theorem ObRel_drew {G : Gh} {B : Base} {w : World} {ob : Ob} (h : ObRel G B w ob) : ObRel G B (drew w) ob := by
  cases ob <;> exact h

theorem Inv.drew {G : Gh} {S : St} {w : World} (h : Inv G S w) : Inv G S (drew w) :=
  ⟨h.wf, h.cells, fun b ob hb hl => let ⟨B, h1, h2⟩ := h.obs b ob hb hl; ⟨B, h1, ObRel_drew h2⟩, h.apart, h.spare, h.tags, h.nodup, h.fresh, h.born⟩

theorem Ext.drew (G : Gh) (S : St) (w : World) : Ext G S w G S (drew w) :=
  ⟨.refl G, Nat.le_refl _, Nat.le_refl _, fun _ _ _ => rfl, fun _ h => .inl h, rfl, rfl, rfl⟩

end Go.Abs
