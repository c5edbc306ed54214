/-
  The abstract machine, part Q: make, maps, iterators, interfaces, lengths.
-/
import Derived.Test.YtnnbhfoimaodhaaAbsP
import Derived.IntWalk
namespace Go.Abs
set_option linter.unusedVariables false
set_option linter.unusedSimpArgs false

theorem wrap_small {n : Int} (h0 : 0 ≤ n) (h1 : n ≤ 9223372036854775807) : IntKind.i64.wrap n = n := IntWalk.i64_in n (by omega)

theorem run_newRow (P : Program) (e : TypeId) (cells : Array Value) (w : World) : Sem.run P (newRow e cells) w = .ok ⟨w.heap.size, 0, none⟩ (wh w (w.heap.push (.cells cells e (0, 0)))) := by
  simp [newRow, newObj, Sem.run, wh]

theorem push_new (w : World) (o : Obj) : (wh w (w.heap.push o)).heap[w.heap.size]? = some o := by
  show (w.heap.push o)[w.heap.size]? = some o
  simp

theorem bytes_eta (bs : ByteArray) : (⟨bs.data.toList.toArray⟩ : ByteArray) = bs := by
  cases bs; simp

theorem makeSlice_sound {P : Program} {G : Gh} {S : St} {w : World} (h : Inv G S w) {t e : TypeId} {i : TypeInfo} {z : FV} {a b : Int} (hu : elemT P t = some e) (hi : P.info? e = some i) (hz : zeroT P e = some z)
    (h0 : 0 ≤ a) (hab : a ≤ b) (hb : b.toNat * i.bytes ≤ maxLenA) (hb0 : 0 < i.bytes) (hs0 : 0 < i.size) (hzl : z.cells.length = i.size) :
    ∃ x G' w', Sem.run P (Instr.makeSlice t (.int .i64 a) (.int .i64 b)) w = .ok x w' ∧ RelA G' (.sl S.next 0 a.toNat i.size (decide (a = b))) x ∧
      Inv G' (S.new (.blk (repCells b.toNat (z.cells.map .c)) 0 e)) w' ∧ Ext G S w G' (S.new (.blk (repCells b.toNat (z.cells.map .c)) 0 e)) w' := by
  obtain ⟨zv, z1, z2, z3⟩ := zero_cells hz G w
  have hzl' : (z.cells.map AV.c).length = i.size := by simpa using hzl
  have hbig : b.toNat ≤ maxLenA := Nat.le_trans (Nat.le_mul_of_pos_right _ hb0) hb
  have hbz : (b.toNat : Int) = b := Int.toNat_of_nonneg (by omega)
  have hbl : b ≤ 140737488355328 := by unfold maxLenA at hbig; omega
  have hwa : IntKind.i64.wrap a = a := wrap_small h0 (by omega)
  have hwb : IntKind.i64.wrap b = b := wrap_small (by omega) (by omega)
  have hrep := rep_rel (n := b.toNat) z2 hzl' hs0
  have hcl : (repCells b.toNat (z.cells.map AV.c)).length = b.toNat * i.size := repCells_length _ hzl' _
  have hsc : ∀ a' ∈ repCells b.toNat (z.cells.map AV.c), a'.scalar = true := by
    have hall := zeroT_scalar hz
    generalize b.toNat = n
    induction n with
    | zero => intro a' ha; simp [repCells] at ha
    | succ n ih =>
      intro a' ha
      simp only [repCells, List.mem_append] at ha
      rcases ha with ha | ha
      · exact List.all_eq_true.1 hall a' ha
      · exact ih a' ha
  obtain ⟨G', k1, k2, k3⟩ := inv_new_blk h (repCells b.toNat (z.cells.map .c)) 0 (((Array.range (b.toNat * i.size)).map (fun j => zv.cells[j % zv.cells.size]!)).toList) e e 0 0 (by rw [hrep.len]; exact Nat.le_refl _) (fun j a' ha => by
    obtain ⟨v, v1, v2⟩ := relL_cell hrep ha
    exact ⟨v, v1, v2, scalar_one v2 (hsc a' (List.mem_of_getElem? ha))⟩) (by intro j _; omega)
  have hbb : ¬ ((i.bytes : Int) * b > 2 ^ 48) := by
    have : (i.bytes : Int) * b = ((b.toNat * i.bytes : Nat) : Int) := by rw [Int.natCast_mul, hbz, Int.mul_comm]
    rw [this]
    unfold maxLenA at hb
    omega
  have hbn : ¬ b < 0 := by omega
  have han : ¬ a < 0 := by omega
  have hal : ¬ a > b := by omega
  have hroom : ∀ n w1, Sem.run P (askRoom n) w1 = .ok () w1 := fun n w1 => by
    unfold askRoom; split <;> simp [mark, Sem.run]
  have hti := run_typeInfo P hi
  have hsz : ∀ w1, Sem.run P (sizeOf e) w1 = .ok i.size w1 := fun w1 => run_sizeOf P (by simp [szT, hi]) w1
  refine ⟨.slice (some ⟨w.heap.size, 0, none⟩) a.toNat b.toNat, G', _, ?_, ?_, k1, k2⟩
  · have hc : (decide (b < 0) || decide ((i.bytes : Int) * b > 2 ^ 48)) = false := by simp [hbn]; omega
    have hcond : ((decide (b < 0) || decide ((i.bytes : Int) * b > 2 ^ 48)) || decide (a < 0) || decide (a > b)) = false := by rw [hc]; simp [han]; omega
    simp only [Instr.makeSlice, Sem.run_bind, run_underlying P (elemT_spec hu), Result.andThen_ok, asInt, asIntOf, Sem.run_pure, hti, hwa, hwb, hcond, Bool.false_eq_true, if_false, hroom, hsz]
    split
    · rename_i hz0
      have hr0 : Array.range (b.toNat * i.size) = #[] := by rw [hz0]; rfl
      simp only [Sem.run_bind, Sem.run_pure, Result.andThen_ok, run_newRow, hr0, Array.map_empty]
    · simp only [Sem.run_bind, z1, Sem.run_pure, Result.andThen_ok, run_newRow, Array.toArray_toList]
  · have hll : ((Array.range (b.toNat * i.size)).map (fun j => zv.cells[j % zv.cells.size]!)).toList.length = b.toNat * i.size := by simp
    have := RelA.sl (G := G') (b := S.next) (off := 0) (len := a.toNat) (s := i.size) (full := decide (a = b)) (a := ⟨w.heap.size, 0, none⟩) (cap := b.toNat) k3 (fun _ => by simp) (by omega)
      (by simp only [hll]; omega) (fun hd => by have : a = b := by simpa using hd
                                                rw [this]) (fun _ => by simp only [hcl]; omega)
    exact this

theorem makeMap_sound {P : Program} {G : Gh} {S : St} {w : World} (h : Inv G S w) (t : TypeId) :
    ∃ x G' w', Sem.run P (Instr.makeMap t none) w = .ok x w' ∧ RelA G' (.map S.next) x ∧ Inv G' (S.new (.map [] [] 0)) w' ∧ Ext G S w G' (S.new (.map [] [] 0)) w' := by
  obtain ⟨k1, k2⟩ := inv_new h (.map [] [] 0) (.map #[] 0) 0 0 ⟨[], push_new w _, rfl, fun i e p he => by simp at he, fun j v hj => by
    have := cell_lt (h.cells _ _ _ hj)
    simp only at this; omega, rfl⟩
  exact ⟨.map (some w.heap.size), _, _, by simp [Instr.makeMap, newObj, Sem.run, wh], .map (B := ⟨w.heap.size, 0, 0, 0⟩) (Gh.bind_self _ _ _), k1, k2⟩

theorem range_sound {P : Program} {G : Gh} {S : St} {w : World} (h : Inv G S w) {t : TypeId} (hu : P.underlying t = some .string) {s : List UInt8} {x : Value} (hx : RelA G (.c (.str s)) x) :
    ∃ y G' w', Sem.run P (Instr.range t x) w = .ok y w' ∧ RelA G' (.iter S.next) y ∧ Inv G' (S.new (.siter s 0)) w' ∧ Ext G S w G' (S.new (.siter s 0)) w' := by
  cases relA_c hx with
  | str bs =>
    obtain ⟨k1, k2⟩ := inv_new h (.siter bs.data.toList 0) (.stringIter bs 0) 0 0 ⟨by rw [bytes_eta]; exact push_new w _, fun j v hj => by
      have := cell_lt (h.cells _ _ _ hj)
      simp only at this; omega⟩
    exact ⟨_, _, _, by simp [Instr.range, run_underlying P hu, newObj, Sem.run, wh], .iter (B := ⟨w.heap.size, 0, 0, 0⟩) (Gh.bind_self _ _ _), k1, k2⟩

theorem rangeMap_sound {P : Program} {G : Gh} {S : St} {w : World} (h : Inv G S w) {t kt et : TypeId} (hu : P.underlying t = some (.map kt et)) {b : Nat} {es : List (FV × AV)} {born : List Nat} {clock : Nat}
    (hb : S.get b = some (.map es born clock)) {x : Value} (hx : RelA G (.map b) x) :
    ∃ y G' w', Sem.run P (Instr.range t x) w = .ok y w' ∧ RelA G' (.iter S.next) y ∧ Inv G' (S.new (.miter b clock [])) w' ∧ Ext G S w G' (S.new (.miter b clock [])) w' := by
  cases hx with
  | @map _ B hB =>
    obtain ⟨B', hB', ms, k1, k2, k3, k4, k5⟩ := h.obs _ _ hb rfl
    rw [hB] at hB'
    cases hB'
    have hlt : b < S.next := h.wf _ _ hb
    obtain ⟨r1, r2⟩ := inv_new h (.miter b clock []) (.mapIter (some B.g) clock #[] clock) 0 0 ⟨⟨B, by rw [Gh.bind_ne _ _ (by omega)]; exact hB, push_new w _⟩, fun j v hj => by
      have := cell_lt (h.cells _ _ _ hj)
      simp only at this; omega⟩
    have hgo : Sem.run P (getObj B.g) w = .ok (.map ms.toArray clock) w := by simp [getObj, Sem.run, k1]
    refine ⟨.pointer (some ⟨w.heap.size, 0, none⟩), _, _, ?_, .iter (B := ⟨w.heap.size, 0, 0, 0⟩) (Gh.bind_self _ _ _), r1, r2⟩
    simp only [Instr.range, Sem.run_bind, run_underlying P hu, Result.andThen_ok, hgo, Sem.run_pure]
    rfl

theorem rangeNil_sound {P : Program} {G : Gh} {S : St} {w : World} (h : Inv G S w) {t kt et : TypeId} (hu : P.underlying t = some (.map kt et)) {x : Value} (hx : RelA G (.c .nilm) x) :
    ∃ y G' w', Sem.run P (Instr.range t x) w = .ok y w' ∧ RelA G' (.iter S.next) y ∧ Inv G' (S.new .niter) w' ∧ Ext G S w G' (S.new .niter) w' := by
  cases relA_c hx
  obtain ⟨r1, r2⟩ := inv_new h .niter (.mapIter none 0 #[] 0) 0 0 ⟨push_new w _, fun j v hj => by
    have := cell_lt (h.cells _ _ _ hj)
    simp only at this; omega⟩
  refine ⟨.pointer (some ⟨w.heap.size, 0, none⟩), _, _, ?_, .iter (B := ⟨w.heap.size, 0, 0, 0⟩) (Gh.bind_self _ _ _), r1, r2⟩
  simp only [Instr.range, Sem.run_bind, run_underlying P hu, Result.andThen_ok, Sem.run_pure]
  rfl

/-! ### Maps -/
theorem keyEq_sound {F : Nat → Nat → Option Value} {a b : FV} {x y : Value} {r : Bool} {d : TypeDesc} (h : keyEq a b = some r) (hx : RelF F a x) (hy : RelF F b y)
    (hd : (∃ k, d = .int k) ∨ d = .string) (hk : ∀ k n, a = .int k n → ∃ k', d = .int k') (hs : ∀ s, a = .str s → d = .string) : Instr.sameNow d x y = some r := by
  unfold keyEq at h
  split at h
  · split at h
    · rename_i e
      subst e
      cases h
      cases hx; cases hy
      obtain ⟨k', rfl⟩ := hk _ _ rfl
      simp [Instr.sameNow]
    · cases h
  · cases h
    cases hx; cases hy
    have := hs _ rfl
    subst this
    simp [Instr.sameNow, str_beq]
  · cases h

theorem findA_sound {G : Gh} {k : FV} {x : Value} {d : TypeDesc} (hx : RelF G.F k x) (hd : (∃ k, d = .int k) ∨ d = .string) (hk : ∀ j n, k = .int j n → ∃ k', d = .int k') (hs : ∀ s, k = .str s → d = .string) :
    ∀ {es : List (FV × AV)} {ms : List MapEntry} {r : Option AV} (i : Nat), findA k es = some r → ms.length = es.length →
    (∀ (i : Nat) (e : MapEntry) (p : FV × AV), ms[i]? = some e → es[i]? = some p → RelF G.F p.1 e.key ∧ RelA G p.2 e.val) →
    (r = none ∧ Instr.findNow d x ms i = some none) ∨ ∃ v j e, r = some v ∧ ms[j]? = some e ∧ RelA G v e.val ∧ Instr.findNow d x ms i = some (some (i + j, e.val)) ∧
      (∃ p, es[j]? = some p ∧ keyEq k p.1 = some true) ∧ (∀ v', updA k v' es = some (es.set j (k, v')))
  | [], [], r, i, h, _, _ => by simp [findA] at h; subst h; exact .inl ⟨rfl, rfl⟩
  | [], m :: ms, _, _, _, hl, _ => by simp at hl
  | p :: es, [], _, _, _, hl, _ => by simp at hl
  | (k', v) :: es, m :: ms, r, i, h, hl, hr => by
    obtain ⟨h1, h2⟩ := hr 0 m (k', v) rfl rfl
    simp only [findA] at h
    split at h
    · rename_i hke
      cases h
      have := keyEq_sound hke hx h1 hd hk hs
      exact .inr ⟨v, 0, m, rfl, rfl, h2, by simp [Instr.findNow, this], ⟨_, rfl, hke⟩, fun v' => by simp [updA, hke]⟩
    · rename_i hke
      have := keyEq_sound hke hx h1 hd hk hs
      rcases findA_sound hx hd hk hs (i + 1) h (by simpa using hl) (fun j e p he hp => hr (j + 1) e p (by simpa using he) (by simpa using hp)) with ⟨rfl, k2⟩ | ⟨v2, j, e, rfl, k1, k2, k3, k4, k5⟩
      · exact .inl ⟨rfl, by simp [Instr.findNow, this, k2]⟩
      · refine .inr ⟨v2, j + 1, e, rfl, by simpa using k1, k2, ?_, by simpa using k4, fun v' => by simp [updA, hke, k5 v']⟩
        simp only [Instr.findNow, this, k3]
        congr 3; omega
    · cases h

theorem mapT_spec {P : Program} {t k e : TypeId} (h : mapT P t = some (k, e)) : P.underlying t = some (.map k e) ∧ ∃ d, P.underlying k = some d ∧ ((∃ j, d = .int j) ∨ d = .string) := by
  unfold mapT at h
  split at h
  · rename_i k' e' hu
    split at h
    · rename_i j hk; cases h; exact ⟨hu, _, hk, .inl ⟨j, rfl⟩⟩
    · rename_i hk; cases h; exact ⟨hu, _, hk, .inr rfl⟩
    · cases h
  · cases h

theorem run_checkKey {P : Program} {k : TypeId} {d : TypeDesc} (hk : P.underlying k = some d) (hd : (∃ j, d = .int j) ∨ d = .string) (b : Bool) (v : Value) (w : World) :
    Sem.run P (Instr.checkKey b 10000 k v) w = .ok () w := by
  have : ∀ n, Sem.run P (Instr.checkKey b (n + 1) k v) w = .ok () w := fun n => by
    rcases hd with ⟨j, rfl⟩ | rfl
    · simp [Instr.checkKey, run_underlying P hk]
    · simp [Instr.checkKey, run_underlying P hk]
  exact this 9999

theorem keyFits_spec {P : Program} {t : TypeId} {k : FV} {d : TypeDesc} (h : keyFits P t k = true) (hd : P.underlying t = some d) :
    (∀ j n, k = .int j n → ∃ k', d = .int k') ∧ (∀ s, k = .str s → d = .string) := by
  unfold keyFits at h
  rw [hd] at h
  refine ⟨fun j n e => ?_, fun s e => ?_⟩
  · subst e
    cases d <;> first | exact ⟨_, rfl⟩ | (simp at h; done)
  · subst e
    cases d <;> first | rfl | (simp at h; done)

theorem lookup_sound {P : Program} {G : Gh} {S : St} {w : World} (h : Inv G S w) {t : TypeId} {m k v : AV} {ok : Bool} {xm xk : Value} (he : aLookup P t m k ok S = some v)
    (hm : RelA G m xm) (hk : RelA G k xk) : ∃ y, Sem.run P (Instr.lookup t xm xk ok) w = .ok y w ∧ RelA G v y := by
  unfold aLookup at he
  split at he
  case h_2 => cases he
  rename_i kt e kf ht
  obtain ⟨hu, d, hd, hdd⟩ := mapT_spec ht
  split at he
  case h_2 => cases he
  rename_i z hfit hz
  obtain ⟨hf1, hf2⟩ := keyFits_spec hfit hd
  obtain ⟨zv, z1, z2⟩ := run_zeroValue P hz G.F w
  split at he
  case h_2 => cases he
  rename_i es hes
  have hms : ∃ ms : List MapEntry, ((xm = .map none ∧ ms = []) ∨ ∃ g clock, xm = .map (some g) ∧ w.heap[g]? = some (.map ms.toArray clock)) ∧ ms.length = es.length ∧
      (∀ (i : Nat) (e : MapEntry) (p : FV × AV), ms[i]? = some e → es[i]? = some p → RelF G.F p.1 e.key ∧ RelA G p.2 e.val) := by
    split at hes
    · cases hes
      cases relA_c hm
      exact ⟨[], .inl ⟨rfl, rfl⟩, rfl, fun i e p he => by simp at he⟩
    · split at hes
      · rename_i es' born clock hb
        cases hes
        cases hm with
        | @map _ B hB =>
          obtain ⟨B', hB', ms, k1, k2, k3, k4, k5⟩ := h.obs _ _ hb rfl
          rw [hB] at hB'
          cases hB'
          exact ⟨ms, .inr ⟨_, _, rfl, k1⟩, k2, k3⟩
      · cases hes
    · cases hes
  obtain ⟨ms, m1, m2, m3⟩ := hms
  have hfk : ∀ r, findA kf es = some r → Sem.run P (Instr.findKey kt xk ms) w = (match Instr.findNow d xk ms 0 with | some r => .ok r w | none => Sem.run P (Instr.findAsking kt xk ms) w) := by
    intro r hr
    simp only [Instr.findKey, Sem.run_bind, run_underlying P hd, Result.andThen_ok]
    cases Instr.findNow d xk ms 0 <;> rfl
  have hrun : ∀ q : Option (Nat × Value), Instr.findNow d xk ms 0 = some q → (∃ r, findA kf es = some r) → Sem.run P (Instr.lookup t xm xk ok) w =
      .ok (if ok then .tuple #[(match q with | some (_, v) => v | none => zv), .bool q.isSome] else (match q with | some (_, v) => v | none => zv)) w := by
    intro q hq ⟨r, hr⟩
    have := hfk r hr
    rw [hq] at this
    rcases m1 with ⟨rfl, rfl⟩ | ⟨g, clock, rfl, hg⟩
    · simp only [Instr.lookup, Sem.run_bind, run_underlying P hu, Result.andThen_ok, Sem.run_pure, run_checkKey hd hdd, Array.toList_empty, this]
      cases q with
      | none => simp [z1]
      | some p => obtain ⟨i, v⟩ := p; simp
    · have hgo : Sem.run P (getObj g) w = .ok (.map ms.toArray clock) w := by simp [getObj, Sem.run, hg]
      simp only [Instr.lookup, Sem.run_bind, run_underlying P hu, Result.andThen_ok, Sem.run_pure, hgo, run_checkKey hd hdd, this]
      cases q with
      | none => simp [z1]
      | some p => obtain ⟨i, v⟩ := p; simp
  split at he
  · rename_i v2 hfind
    cases he
    rcases findA_sound (relA_c hk) hdd hf1 hf2 0 hfind m2 m3 with ⟨hn, _⟩ | ⟨v3, j, en, hv, k1, k2, k3, k4, k6⟩
    · cases hn
    · cases hv
      refine ⟨_, hrun _ k3 ⟨_, hfind⟩, ?_⟩
      cases ok with
      | true => exact .tup (vs := [_, _]) rfl (fun i a b ha hb => by
          match i with
          | 0 => simp at ha hb; subst ha; subst hb; exact k2
          | 1 => simp at ha hb; subst ha; subst hb; exact .c (.bool true)
          | i + 2 => simp at ha)
      | false => exact k2
  · rename_i hfind
    cases he
    rcases findA_sound (relA_c hk) hdd hf1 hf2 0 hfind m2 m3 with ⟨_, k1⟩ | ⟨v3, j, en, hv, _⟩
    · refine ⟨_, hrun _ k1 ⟨_, hfind⟩, ?_⟩
      cases ok with
      | true => exact .tup (vs := [_, _]) rfl (fun i a b ha hb => by
          match i with
          | 0 => simp at ha hb; subst ha; subst hb; exact .c z2
          | 1 => simp at ha hb; subst ha; subst hb; exact .c (.bool false)
          | i + 2 => simp at ha)
      | false => exact .c z2
    · cases hv
  · cases he

theorem sameBits_self {d : TypeDesc} {x y : Value} (h : Instr.sameNow d x y = some true) : Instr.sameBits 10000 y x = true := by
  unfold Instr.sameNow at h
  split at h
  · split at h
    · rename_i e; subst e; simp at h; subst h; simp [Instr.sameBits]
    · cases h
  · simp only [Option.some.injEq] at h
    simp only [Instr.sameBits]
    rw [str_beq] at h ⊢
    simp only [beq_iff_eq] at h ⊢
    exact h.symm
  · simp at h; subst h; simp [Instr.sameBits]
  · cases h

theorem mapUpdate_sound {P : Program} {G : Gh} {S : St} {w : World} (h : Inv G S w) {t : TypeId} {m k v : AV} {xm xk xv : Value} {cm : List Cmd} (he : aMapUpdate P t m k v S = some cm)
    (hm : RelA G m xm) (hk : RelA G k xk) (hv : RelA G v xv) : ∃ w', Sem.run P (Instr.mapUpdate t xm xk xv) w = .ok () w' ∧ Inv G (S.run cm) w' ∧ Ext G S w G (S.run cm) w' := by
  unfold aMapUpdate at he
  split at he
  case h_2 => cases he
  rename_i kt et b kf ht
  obtain ⟨hu, d, hd, hdd⟩ := mapT_spec ht
  split at he
  case h_2 => cases he
  rename_i es born clock hb
  cases hm with
  | @map _ B hB =>
  obtain ⟨B', hB', ms, k1, k2, k3, k4, k5⟩ := h.obs _ _ hb rfl
  rw [hB] at hB'
  cases hB'
  have hg : B.g < w.heap.size := h.born b B hB
  have hgo : Sem.run P (getObj B.g) w = .ok (.map ms.toArray clock) w := by simp [getObj, Sem.run, k1]
  have hset : ∀ o, Sem.run P (setObj B.g o) w = .ok () (wh w (w.heap.setIfInBounds B.g o)) := fun o => by simp [setObj, Sem.run, k1, wh]
  have hfk : ∀ q, Instr.findNow d xk ms 0 = some q → Sem.run P (Instr.findKey kt xk ms) w = .ok q w := by
    intro q hq
    simp only [Instr.findKey, Sem.run_bind, run_underlying P hd, Result.andThen_ok, hq]
    rfl
  have hFno : ∀ (o : Obj) j v, G.F B.g j = some v → (wh w (w.heap.setIfInBounds B.g o)).cell? ⟨B.g, j, none⟩ = some v := fun o j v hj => (k4 j v hj).elim
  split at he
  · -- a new key
    rename_i hfit hfind
    cases he
    obtain ⟨hf1, hf2⟩ := keyFits_spec hfit hd
    rcases findA_sound (relA_c hk) hdd hf1 hf2 0 hfind k2 k3 with ⟨_, hn⟩ | ⟨v3, j, en, hv, _⟩
    · obtain ⟨r1, r2⟩ := inv_upd h hb rfl (ob := .map (es ++ [(kf, v)]) (born ++ [clock]) (clock + 1)) rfl hB (.map (ms.toArray.push { key := xk, val := xv, born := clock }) (clock + 1)) (by
        refine ⟨ms ++ [{ key := xk, val := xv, born := clock }], by rw [wh_set_eq hg]; simp, by simp [k2], ?_, k4, by simp [k5]⟩
        intro i e p he hp
        rw [List.getElem?_append] at he hp
        rw [← k2] at hp
        split at he
        · rename_i hi; rw [if_pos hi] at hp; exact k3 i e p he hp
        · rename_i hi
          rw [if_neg hi] at hp
          have hi0 : i - ms.length = 0 := by
            rcases Nat.eq_zero_or_pos (i - ms.length) with h0 | h0
            · exact h0
            · rw [List.getElem?_eq_none (by simp; omega)] at he; cases he
          rw [hi0] at he hp
          simp at he hp
          subst he; subst hp
          exact ⟨relA_c hk, hv⟩) (hFno _)
      refine ⟨_, ?_, r1, r2⟩
      simp only [Instr.mapUpdate, Sem.run_bind, run_underlying P hu, Result.andThen_ok, hgo, run_checkKey hd hdd, hfk _ hn]
      rw [hset]
    · cases hv
  · -- a key that is there
    rename_i v0 hfit hfind
    obtain ⟨hf1, hf2⟩ := keyFits_spec hfit hd
    split at he
    case h_2 => cases he
    rename_i l hl
    cases he
    rcases findA_sound (relA_c hk) hdd hf1 hf2 0 hfind k2 k3 with ⟨hn, _⟩ | ⟨v3, j, en, hv', m1, m2, m3, ⟨p, m4, m5⟩, m6⟩
    · cases hn
    · rw [m6 v] at hl
      cases hl
      have hke := keyEq_sound m5 (relA_c hk) (k3 j en p m1 m4).1 hdd hf1 hf2
      have hsame := sameBits_self hke
      have hjl : j < ms.length := (List.getElem?_eq_some_iff.1 m1).1
      obtain ⟨r1, r2⟩ := inv_upd h hb rfl (ob := .map (es.set j (kf, v)) born clock) rfl hB (.map (ms.toArray.modify j fun e => { e with key := xk, val := xv }) clock) (by
        refine ⟨ms.modify j fun e => { e with key := xk, val := xv }, by rw [wh_set_eq hg]; simp, by simp [k2], ?_, k4, by
          rw [← k5]
          refine List.ext_getElem? fun i => ?_
          simp only [List.getElem?_map, List.getElem?_modify]
          by_cases hij : j = i
          · subst hij; simp [m1]
          · simp [hij]⟩
        intro i e q he hq
        by_cases hij : j = i
        · subst hij
          simp [List.getElem?_modify, m1] at he
          rw [List.getElem?_set, if_pos rfl, if_pos (by omega)] at hq
          simp at hq
          subst he; subst hq
          exact ⟨relA_c hk, hv⟩
        · simp [List.getElem?_modify, hij] at he
          rw [List.getElem?_set, if_neg hij] at hq
          exact k3 i e q he hq) (hFno _)
      refine ⟨_, ?_, r1, r2⟩
      have hkey : Sem.run P (Instr.keyThatStays en.key xk) w = .ok xk w := by simp [Instr.keyThatStays, hsame]
      have hget : ((ms.toArray[0 + j]?).map (·.key)).getD xk = en.key := by simp [m1]
      simp only [Instr.mapUpdate, Sem.run_bind, run_underlying P hu, Result.andThen_ok, hgo, run_checkKey hd hdd, hfk _ m3, hget, hkey]
      rw [hset, Nat.zero_add]
  · cases he

theorem next_sound {P : Program} {G : Gh} {S : St} {w : World} (h : Inv G S w) {b : Nat} {s : List UInt8} {pos : Nat} {x : Value} {ty : TypeId} (hb : S.get b = some (.siter s pos)) (hx : RelA G (.iter b) x) :
    if pos < s.length then ∃ y w', Sem.run P (Instr.next x true ty) w = .ok y w' ∧
        RelA G (.tup [.c (.bool true), .c (.int .i64 pos), .c (.int .i32 (Utf8.decode ⟨s.toArray⟩ pos).1)]) y ∧
        Inv G (S.put b (.siter s (pos + (Utf8.decode ⟨s.toArray⟩ pos).2))) w' ∧ Ext G S w G (S.put b (.siter s (pos + (Utf8.decode ⟨s.toArray⟩ pos).2))) w'
    else ∃ y, Sem.run P (Instr.next x true ty) w = .ok y w ∧ RelA G (.tup [.c (.bool false)]) y := by
  cases hx with
  | @iter _ B hB =>
  obtain ⟨B', hB', k1, k2⟩ := h.obs _ _ hb rfl
  rw [hB] at hB'
  cases hB'
  have hg : B.g < w.heap.size := h.born b B hB
  have hgo : Sem.run P (getObj B.g) w = .ok (.stringIter ⟨s.toArray⟩ pos) w := by simp [getObj, Sem.run, k1]
  have hset : ∀ o, Sem.run P (setObj B.g o) w = .ok () (wh w (w.heap.setIfInBounds B.g o)) := fun o => by simp [setObj, Sem.run, k1, wh]
  have hsz : (⟨s.toArray⟩ : ByteArray).size = s.length := rfl
  split
  · rename_i hp
    obtain ⟨r1, r2⟩ := inv_upd h hb rfl (ob := .siter s (pos + (Utf8.decode ⟨s.toArray⟩ pos).2)) rfl hB (.stringIter ⟨s.toArray⟩ (pos + (Utf8.decode ⟨s.toArray⟩ pos).2)) ⟨wh_set_eq hg, k2⟩ (fun j v hj => (k2 j v hj).elim)
    refine ⟨.tuple #[.bool true, goInt pos, .int .i32 (Utf8.decode ⟨s.toArray⟩ pos).1], _, ?_, ?_, r1, r2⟩
    · simp only [Instr.next, Sem.run_bind, hgo, Result.andThen_ok, hsz, hp, if_true]
      rw [hset]
      rfl
    · exact .tup (vs := [_, _, _]) rfl (fun i a b ha hb => by
        match i with
        | 0 => simp at ha hb; subst ha; subst hb; exact .c (.bool true)
        | 1 => simp at ha hb; subst ha; subst hb; exact .c (.int _ _)
        | 2 => simp at ha hb; subst ha; subst hb; exact .c (.int _ _)
        | i + 3 => simp at ha)
  · rename_i hp
    refine ⟨.tuple #[.bool false], ?_, .tup (vs := [_]) rfl (fun i a b ha hb => by
        match i with
        | 0 => simp at ha hb; subst ha; subst hb; exact .c (.bool false)
        | i + 1 => simp at ha)⟩
    simp only [Instr.next, Sem.run_bind, hgo, Result.andThen_ok, hsz, hp, if_false]
    rfl

theorem leftOf_spec {G : Gh} (seen : List Nat) : ∀ {es : List (FV × AV)} {ms : List MapEntry}, ms.length = es.length →
    (∀ (i : Nat) (e : MapEntry) (p : FV × AV), ms[i]? = some e → es[i]? = some p → RelF G.F p.1 e.key ∧ RelA G p.2 e.val) →
    (ms.filter fun e => !seen.contains e.born).length = (leftOf seen es (ms.map (·.born))).length ∧
    ∀ (i : Nat) (e : MapEntry) (p : FV × AV × Nat), (ms.filter fun e => !seen.contains e.born)[i]? = some e → (leftOf seen es (ms.map (·.born)))[i]? = some p → RelF G.F p.1 e.key ∧ RelA G p.2.1 e.val ∧ p.2.2 = e.born
  | [], [], _, _ => ⟨rfl, fun i e p he => by simp at he⟩
  | [], m :: ms, hl, _ => by simp at hl
  | p :: es, [], hl, _ => by simp at hl
  | (k, v) :: es, m :: ms, hl, hr => by
    obtain ⟨h1, h2⟩ := leftOf_spec seen (es := es) (ms := ms) (by simpa using hl) (fun j e p he hp => hr (j + 1) e p (by simpa using he) (by simpa using hp))
    obtain ⟨r1, r2⟩ := hr 0 m (k, v) rfl rfl
    simp only [List.map_cons, leftOf, List.filter_cons]
    cases seen.contains m.born with
    | true => exact ⟨h1, h2⟩
    | false =>
      simp only [Bool.not_false, if_true, cond_false, List.length_cons, h1, true_and]
      intro i e p he hp
      cases i with
      | zero => simp at he hp; subst he; subst hp; exact ⟨r1, r2, rfl⟩
      | succ i => simp at he hp; exact h2 i e p (by simpa using he) (by simpa using hp)

theorem entOf_spec {G : Gh} (n : Nat) : ∀ {es : List (FV × AV)} {ms : List MapEntry} {p : FV × AV}, ms.length = es.length →
    (∀ (i : Nat) (e : MapEntry) (p : FV × AV), ms[i]? = some e → es[i]? = some p → RelF G.F p.1 e.key ∧ RelA G p.2 e.val) →
    entOf n es (ms.map (·.born)) = some p → ∃ e, ms.find? (·.born == n) = some e ∧ RelF G.F p.1 e.key ∧ RelA G p.2 e.val
  | [], [], _, _, _, h => by simp [entOf] at h
  | [], m :: ms, _, hl, _, _ => by simp at hl
  | p :: es, [], _, hl, _, _ => by simp at hl
  | q :: es, m :: ms, p, hl, hr, h => by
    simp only [List.map_cons, entOf] at h
    cases hb : Nat.beq m.born n with
    | true =>
      rw [hb] at h
      obtain rfl : q = p := by simpa using h
      have : (m.born == n) = true := by simpa using Nat.eq_of_beq_eq_true hb
      exact ⟨m, by simp [List.find?, this], hr 0 m q rfl rfl⟩
    | false =>
      rw [hb] at h
      have : (m.born == n) = false := by
        cases h' : m.born == n with
        | false => rfl
        | true => have := beq_iff_eq.1 h'; subst this; simp at hb
      obtain ⟨e, h1, h2⟩ := entOf_spec n (es := es) (ms := ms) (by simpa using hl) (fun j e p he hp => hr (j + 1) e p (by simpa using he) (by simpa using hp)) h
      exact ⟨e, by simp [List.find?, this, h1], h2⟩

theorem tup1 {G : Gh} {a : AV} {x : Value} (ha : RelA G a x) : RelA G (.tup [a]) (.tuple #[x]) :=
  .tup (vs := [x]) rfl (fun i p q hp hq => by
    match i with
    | 0 => simp at hp hq; subst hp; subst hq; exact ha
    | i + 1 => simp at hp)

theorem tup3 {G : Gh} {a b c : AV} {x y z : Value} (ha : RelA G a x) (hb : RelA G b y) (hc : RelA G c z) : RelA G (.tup [a, b, c]) (.tuple #[x, y, z]) :=
  .tup (vs := [x, y, z]) rfl (fun i p q hp hq => by
    match i with
    | 0 => simp at hp hq; subst hp; subst hq; exact ha
    | 1 => simp at hp hq; subst hp; subst hq; exact hb
    | 2 => simp at hp hq; subst hp; subst hq; exact hc
    | i + 3 => simp at hp)

theorem nextNil_sound {P : Program} {G : Gh} {S : St} {w : World} (h : Inv G S w) {b : Nat} {x : Value} {ty : TypeId} (hb : S.get b = some .niter) (hx : RelA G (.iter b) x) :
    ∃ y, Sem.run P (Instr.next x false ty) w = .ok y w ∧ RelA G (.tup [.c (.bool false)]) y := by
  cases hx with
  | @iter _ B hB =>
  obtain ⟨B', hB', k1, k2⟩ := h.obs _ _ hb rfl
  rw [hB] at hB'
  cases hB'
  have hgo : Sem.run P (getObj B.g) w = .ok (.mapIter none 0 #[] 0) w := by simp [getObj, Sem.run, k1]
  refine ⟨.tuple #[.bool false], ?_, tup1 (.c (.bool false))⟩
  simp only [Instr.next, Sem.run_bind, hgo, Result.andThen_ok]
  rfl

theorem entry_sound {P : Program} {G : Gh} {S : St} {w : World} (h : Inv G S w) {b m clock n : Nat} {seen : List Nat} {es : List (FV × AV)} {born : List Nat} {p : FV × AV} {x : Value}
    (hb : S.get b = some (.miter m clock seen)) (hm : S.get m = some (.map es born clock)) (hn : seen.getLast? = some n) (hp : entOf n es born = some p) (hx : RelA G (.iter b) x) :
    ∃ y, Sem.run P (Instr.entry x) w = .ok y w ∧ RelA G (.tup [.c p.1, p.2]) y := by
  cases hx with
  | @iter _ B hB =>
  obtain ⟨B', hB', ⟨Bm, hBm, k1⟩, k2⟩ := h.obs _ _ hb rfl
  rw [hB] at hB'
  cases hB'
  obtain ⟨Bm', hBm', ms, m1, m2, m3, m4, m5⟩ := h.obs _ _ hm rfl
  rw [hBm] at hBm'
  cases hBm'
  have hgo : Sem.run P (getObj B.g) w = .ok (.mapIter (some Bm.g) clock seen.toArray clock) w := by simp [getObj, Sem.run, k1]
  have hgm : Sem.run P (getObj Bm.g) w = .ok (.map ms.toArray clock) w := by simp [getObj, Sem.run, m1]
  rw [← m5] at hp
  obtain ⟨e, e1, e2, e3⟩ := entOf_spec n m2 m3 hp
  refine ⟨.tuple #[e.key, e.val], ?_, tup2' (.c e2) e3⟩
  have hback : seen.toArray.back? = some n := by rw [List.back?_toArray]; exact hn
  simp only [Instr.entry, Sem.run_bind, hgo, Result.andThen_ok, hback, hgm]
  simp [e1]
where tup2' {a b : AV} {x y : Value} (ha : RelA G a x) (hb : RelA G b y) : RelA G (.tup [a, b]) (.tuple #[x, y]) :=
  .tup (vs := [x, y]) rfl (fun i p q hp hq => by
    match i with
    | 0 => simp at hp hq; subst hp; subst hq; exact ha
    | 1 => simp at hp hq; subst hp; subst hq; exact hb
    | i + 2 => simp at hp)

theorem next_run {P : Program} {r g clock i : Nat} {w w1 : World} {Sn : Array Nat} {A FA : Array MapEntry} {CA : Array (Option MapEntry)} {ty : TypeId}
    (hgo : Sem.run P (getObj r) w = .ok (.mapIter (some g) clock Sn clock) w) (hgm : Sem.run P (getObj g) w = .ok (.map A clock) w)
    (hchk : (!Sn.isEmpty && !A.isEmpty && A.all fun e => decide (e.born ≥ clock)) = false)
    (hfil : (A.filter fun e => !Sn.contains e.born) = FA) (ho : (FA.filter fun e => decide (e.born < clock)) = FA) (hn : (FA.filter fun e => decide (e.born ≥ clock)) = #[])
    (hcand : ((if FA.isEmpty = true then #[none] else #[]) ++ (FA ++ #[]).map some) = CA) (hch : Sem.run P (choose (.mapNext CA.size)) w = .ok i w1) :
    Sem.run P (Instr.next (.pointer (some ⟨r, 0, none⟩)) false ty) w = (match CA[i]? with
      | some (some e) => (Sem.run P (setObj r (.mapIter (some g) clock (Sn.push e.born) clock)) w1).andThen fun _ w2 => .ok (.tuple #[.bool true, e.key, e.val]) w2
      | some none => .ok (.tuple #[.bool false]) w1
      | none => Sem.run P (stuck "Next: no such candidate") w1) := by
  simp only [Instr.next, Sem.run_bind, hgo, Result.andThen_ok, hgm, hchk, Bool.false_eq_true, if_false, hfil, ho, hn, hcand, hch, Sem.run_pure]
  cases CA[i]? with
  | none => rfl
  | some x =>
    cases x with
    | none => rfl
    | some e => simp only [Sem.run_bind, Sem.run_pure]

theorem nextMap_sound {P : Program} {G : Gh} {S : St} {w : World} (h : Inv G S w) {b m clock : Nat} {seen : List Nat} {es : List (FV × AV)} {born : List Nat} {x : Value} {ty : TypeId}
    (hb : S.get b = some (.miter m clock seen)) (hm : S.get m = some (.map es born clock)) (hborn : born.all (fun n => Nat.blt n clock) = true) (hx : RelA G (.iter b) x) :
    (leftOf seen es born = [] → ∃ y, Sem.run P (Instr.next x false ty) w = .ok y w ∧ RelA G (.tup [.c (.bool false)]) y) ∧
    (leftOf seen es born ≠ [] → ∃ p ∈ leftOf seen es born, ∃ y w', Sem.run P (Instr.next x false ty) w = .ok y w' ∧ RelA G (.tup [.c (.bool true), .c p.1, p.2.1]) y ∧
        Inv G (S.put b (.miter m clock (seen ++ [p.2.2]))) w' ∧ Ext G S w G (S.put b (.miter m clock (seen ++ [p.2.2]))) w') := by
  cases hx with
  | @iter _ B hB =>
  obtain ⟨B', hB', ⟨Bm, hBm, k1⟩, k2⟩ := h.obs _ _ hb rfl
  rw [hB] at hB'
  cases hB'
  obtain ⟨Bm', hBm', ms, m1, m2, m3, m4, m5⟩ := h.obs _ _ hm rfl
  rw [hBm] at hBm'
  cases hBm'
  have hg : B.g < w.heap.size := h.born b B hB
  have hgo : Sem.run P (getObj B.g) w = .ok (.mapIter (some Bm.g) clock seen.toArray clock) w := by simp [getObj, Sem.run, k1]
  have hgm : Sem.run P (getObj Bm.g) w = .ok (.map ms.toArray clock) w := by simp [getObj, Sem.run, m1]
  subst m5
  have hold : ∀ e ∈ ms, e.born < clock := by
    intro e he
    have := List.all_eq_true.1 hborn e.born (List.mem_map.2 ⟨e, he, rfl⟩)
    exact blt_lt' this
  obtain ⟨l1, l2⟩ := leftOf_spec (G := G) seen m2 m3
  have hchk : (!seen.toArray.isEmpty && !ms.toArray.isEmpty && ms.toArray.all fun e => decide (e.born ≥ clock)) = false := by
    cases ms with
    | nil => simp
    | cons e r =>
      have := hold e (by simp)
      have : ¬ (clock ≤ e.born) := by omega
      simp [this]
  have hfil : (ms.toArray.filter fun e => !seen.toArray.contains e.born) = (ms.filter fun e => !seen.contains e.born).toArray := by simp
  generalize hF : (ms.filter fun e => !seen.contains e.born) = F at *
  have hFmem : ∀ e ∈ F, e.born < clock := by
    intro e he
    rw [← hF] at he
    exact hold e (List.mem_filter.1 he).1
  have ho : (F.toArray.filter fun e => decide (e.born < clock)) = F.toArray := by
    have : F.filter (fun e => decide (e.born < clock)) = F := List.filter_eq_self.2 fun e he => by simpa using hFmem e he
    simp [this]
  have hn : (F.toArray.filter fun e => decide (e.born ≥ clock)) = #[] := by
    have : F.filter (fun e => decide (e.born ≥ clock)) = [] := List.filter_eq_nil_iff.2 fun e he => by have := hFmem e he; simp; omega
    simp [this]
  constructor
  · intro hnil
    rw [hnil] at l1
    have hF0 : F = [] := List.eq_nil_of_length_eq_zero (by simpa using l1)
    subst hF0
    refine ⟨.tuple #[.bool false], ?_, tup1 (.c (.bool false))⟩
    rw [next_run (i := 0) (w1 := w) (CA := #[none]) hgo hgm hchk hfil ho hn (by simp) (by simp [choose, Sem.run, Question.forced])]
    rfl
  · intro hne
    have hlen : 0 < F.length := by rw [l1]; exact List.length_pos_iff.2 hne
    have hFe : F.toArray.isEmpty = false := by
      cases F with
      | nil => simp at hlen
      | cons e r => simp
    -- the answer
    have hch : ∃ i w1, i < F.length ∧ Sem.run P (choose (.mapNext F.length)) w = .ok i w1 ∧ (w1 = w ∨ w1 = drew w) := by
      by_cases hf : F.length ≤ 1
      · exact ⟨0, w, hlen, by simp [choose, Sem.run, Question.forced, hf], .inl rfl⟩
      · refine ⟨(Question.mapNext F.length).cut (w.tape w.drawn (.mapNext F.length)), drew w, ?_, by simp [choose, Sem.run, Question.forced, hf, drew], .inr rfl⟩
        exact Nat.mod_lt _ hlen
    obtain ⟨i, w1, hi, hrun, hw1⟩ := hch
    have hI1 : Inv G S w1 ∧ Ext G S w G S w1 := by
      rcases hw1 with rfl | rfl
      · exact ⟨h, .refl G S _⟩
      · exact ⟨h.drew, Ext.drew G S w⟩
    have hh : w1.heap = w.heap := by rcases hw1 with rfl | rfl <;> rfl
    have hFi : F[i]? = some F[i] := by simp [hi]
    have hli : i < (leftOf seen es (ms.map (·.born))).length := by omega
    have hLi : (leftOf seen es (ms.map (·.born)))[i]? = some (leftOf seen es (ms.map (·.born)))[i] := by simp [hli]
    obtain ⟨e1, e2, e3⟩ := l2 i _ _ hFi hLi
    have hset : ∀ o, Sem.run P (setObj B.g o) w1 = .ok () (wh w1 (w1.heap.setIfInBounds B.g o)) := fun o => by simp [setObj, Sem.run, hh, k1, wh]
    have hg1 : B.g < w1.heap.size := by rw [hh]; exact hg
    obtain ⟨r1, r2⟩ := inv_upd hI1.1 hb rfl (ob := .miter m clock (seen ++ [F[i].born])) rfl hB (.mapIter (some Bm.g) clock (seen.toArray.push F[i].born) clock)
      ⟨⟨Bm, hBm, by rw [wh_set_eq hg1]; simp⟩, k2⟩ (fun j v hj => (k2 j v hj).elim)
    refine ⟨(leftOf seen es (ms.map (·.born)))[i], List.getElem_mem _, .tuple #[.bool true, F[i].key, F[i].val], _, ?_, tup3 (.c (.bool true)) (.c e1) e2, by rw [e3]; exact r1, by rw [e3]; exact hI1.2.trans r2⟩
    have hcand : ((if F.toArray.isEmpty = true then #[none] else #[]) ++ (F.toArray ++ #[]).map some : Array (Option MapEntry)) = (F.map some).toArray := by
      rw [hFe]; simp
    rw [next_run (i := i) (w1 := w1) hgo hgm hchk hfil ho hn hcand (by simpa using hrun)]
    have : (F.map some).toArray[i]? = some (some F[i]) := by simp [hi]
    rw [this]
    simp only [hset, Result.andThen_ok]
where blt_lt' {a b : Nat} (h : Nat.blt a b = true) : a < b := by simpa [Nat.blt_eq] using h

theorem tup2 {G : Gh} {a b : AV} {x y : Value} (ha : RelA G a x) (hb : RelA G b y) : RelA G (.tup [a, b]) (.tuple #[x, y]) :=
  .tup (vs := [x, y]) rfl (fun i p q hp hq => by
    match i with
    | 0 => simp at hp hq; subst hp; subst hq; exact ha
    | 1 => simp at hp hq; subst hp; subst hq; exact hb
    | i + 2 => simp at hp)

theorem assert_sound {P : Program} {G : Gh} {x v : AV} {T xT : TypeId} {ok : Bool} {vx : Value} (he : aAssert P x T ok = some v) (hx : RelA G x vx) (w : World) :
    ∃ y, Sem.run P (Instr.typeAssert vx xT T ok) w = .ok y w ∧ RelA G v y := by
  unfold aAssert at he
  split at he
  · cases he
  · rename_i d z hni hu hz
    obtain ⟨zv, z1, z2⟩ := run_zeroValue P hz G.F w
    have hnotI : ∀ ms, d ≠ .interface ms := fun ms e => hni ms (by rw [e])
    split at he
    · rename_i t iv
      cases relA_c hx with
      | iface _ _ iv' hiv =>
        split at he
        · rename_i e
          subst e
          cases ok with
          | true =>
            cases he
            refine ⟨_, ?_, tup2 (.c hiv) (.c (.bool true))⟩
            cases d <;> first | exact absurd rfl (hnotI _) | simp [Instr.typeAssert, run_underlying P hu]
          | false =>
            cases he
            refine ⟨_, ?_, .c hiv⟩
            cases d <;> first | exact absurd rfl (hnotI _) | simp [Instr.typeAssert, run_underlying P hu]
        · rename_i e
          cases ok with
          | true =>
            cases he
            refine ⟨_, ?_, tup2 (.c z2) (.c (.bool false))⟩
            cases d <;> first | exact absurd rfl (hnotI _) | simp [Instr.typeAssert, run_underlying P hu, e, z1]
          | false => cases he
    · rename_i t iv
      cases hx with
      | iface hiv =>
        split at he
        · rename_i e
          subst e
          cases ok with
          | true =>
            cases he
            refine ⟨_, ?_, tup2 hiv (.c (.bool true))⟩
            cases d <;> first | exact absurd rfl (hnotI _) | simp [Instr.typeAssert, run_underlying P hu]
          | false =>
            cases he
            refine ⟨_, ?_, hiv⟩
            cases d <;> first | exact absurd rfl (hnotI _) | simp [Instr.typeAssert, run_underlying P hu]
        · rename_i e
          cases ok with
          | true =>
            cases he
            refine ⟨_, ?_, tup2 (.c z2) (.c (.bool false))⟩
            cases d <;> first | exact absurd rfl (hnotI _) | simp [Instr.typeAssert, run_underlying P hu, e, z1]
          | false => cases he
    · cases relA_c hx
      cases ok with
      | true =>
        cases he
        refine ⟨_, ?_, tup2 (.c z2) (.c (.bool false))⟩
        cases d <;> first | exact absurd rfl (hnotI _) | simp [Instr.typeAssert, run_underlying P hu, z1]
      | false => cases he
    · cases he
  · cases he

theorem mkIface_rel {G : Gh} {t : TypeId} {v : AV} {x : Value} (h : RelA G v x) : RelA G (mkIface t v) (.iface t x) := by
  unfold mkIface
  split
  · exact .c (.iface _ _ _ (relA_c h))
  · exact .iface h

theorem len_sound {P : Program} {G : Gh} {S : St} {w : World} (h : Inv G S w) {t ty : TypeId} {x : AV} {vx : Value} {n : Nat} (he : lenA P t S x = some n) (hx : RelA G x vx) :
    Sem.run P (Builtin.len_ #[t] ty #[vx]) w = .ok (.int .i64 n) w := by
  unfold lenA at he
  split at he
  · rename_i hu
    split at he
    · cases he
      cases relA_c hx with
      | str bs =>
        have hsz : bs.size = bs.data.toList.length := by rw [Array.length_toList]; rfl
        rw [← hsz]
        simp [Builtin.len_, run_underlying P hu, goInt]
    · cases he
  · rename_i k e hu
    cases he
    simp [Builtin.len_, run_underlying P hu, goInt]
  · rename_i e hu
    have : ∃ a c, vx = .slice a n c := by
      split at he
      · cases he; cases relA_c hx; exact ⟨_, _, rfl⟩
      · cases he
        cases relA_c hx with
        | sl0 => exact ⟨_, _, rfl⟩
        | sl => exact ⟨_, _, rfl⟩
      · cases he; cases hx; exact ⟨_, _, rfl⟩
      · cases he; cases hx; exact ⟨_, _, rfl⟩
      · cases he
    obtain ⟨a, c, rfl⟩ := this
    simp [Builtin.len_, run_underlying P hu, goInt]
  · rename_i k e hu
    split at he
    · cases he; cases relA_c hx
      simp [Builtin.len_, run_underlying P hu, goInt]
    · split at he
      · rename_i b es born clock hb
        cases he
        cases hx with
        | @map _ B hB =>
          obtain ⟨B', hB', ms, k1, k2, k3, k4, k5⟩ := h.obs _ _ hb rfl
          rw [hB] at hB'
          cases hB'
          have hgo : Sem.run P (getObj B.g) w = .ok (.map ms.toArray clock) w := by simp [getObj, Sem.run, k1]
          simp [Builtin.len_, run_underlying P hu, hgo, goInt, k2]
      · cases he
    · cases he
  · cases he

end Go.Abs
