/-
  The abstract machine, part J: arithmetic, comparisons, conversions.
-/
import Derived.Test.YtnnbhfoimaodhaaAbsI
import Derived.Laws.StructEq
namespace Go.Abs
set_option linter.unusedVariables false
set_option linter.unusedSimpArgs false

theorem eqGuard_int {P : Program} (op : BinOp) (t : TypeId) (x y : Operand) (k k' : IntKind) (a b : Int) (w : World) :
    Sem.run P (eqGuard op t x y (.int k a) (.int k' b)) w = .ok () w := by
  cases op <;> simp [eqGuard]
theorem eqGuard_str {P : Program} (op : BinOp) (t : TypeId) (x y : Operand) (a b : ByteArray) (w : World) :
    Sem.run P (eqGuard op t x y (.string a) (.string b)) w = .ok () w := by
  cases op <;> simp [eqGuard]

theorem aInt_sound {P : Program} {op : BinOp} {k k' : IntKind} {a b : Int} {r : FV} (h : aInt op k a k' b = some r) (t : TypeId) (F : Nat → Nat → Option Value) (w : World) :
    ∃ x, Sem.run P (binOp op t (.int k a) (.int k' b)) w = .ok x w ∧ RelF F r x := by
  unfold aInt at h
  split at h
  · split at h
    · cases h
    · rename_i hb
      cases h
      refine ⟨_, ?_, .int _ _⟩
      simp [binOp, Op.shift, hb]
  · split at h
    · cases h
    · rename_i hb
      cases h
      refine ⟨_, ?_, .int _ _⟩
      simp [binOp, Op.shift, hb]
  · split at h
    · cases h
    · rename_i hk
      have hk' : k = k' := by simpa using hk
      subst hk'
      split at h <;> first
        | (cases h; refine ⟨_, ?_, .int _ _⟩; simp [binOp, Op.intArith, Op.intBits, Op.intCmp]; done)
        | (cases h; refine ⟨_, ?_, .bool _⟩; simp [binOp, Op.intArith, Op.intBits, Op.intCmp]; done)
        | (split at h
           · cases h
           · rename_i hb
             cases h
             refine ⟨_, ?_, .int _ _⟩
             simp [binOp, Op.intDiv, hb])
        | cases h

theorem bytesLess_list (a b : ByteArray) : Op.bytesLess a.toList b.toList = Op.bytesLess a.data.toList b.data.toList := by
  rw [ByteArray.toList_eq, ByteArray.toList_eq]

theorem strAppend (a b : ByteArray) : (a ++ b).data.toList = a.data.toList ++ b.data.toList := by
  simp [ByteArray.data_append]

theorem aStr_sound {P : Program} {op : BinOp} {a b : ByteArray} {r : FV} (h : aStr op a.data.toList b.data.toList = some r) (t : TypeId) (F : Nat → Nat → Option Value) (w : World) :
    ∃ x, Sem.run P (binOp op t (.string a) (.string b)) w = .ok x w ∧ RelF F r x := by
  have e1 := ByteArray.toList_eq a
  have e2 := ByteArray.toList_eq b
  unfold aStr at h
  cases op <;> simp only at h <;> first
    | (cases h; done)
    | (split at h
       · rename_i hl
         cases h
         refine ⟨.string (a ++ b), ?_, by rw [← strAppend]; exact .str _⟩
         have hle : ¬ (((a.size + b.size : Nat) : Int) > IntKind.i64.max) := by
           have h1 : a.size = a.data.toList.length := by rw [Array.length_toList]; rfl
           have h2 : b.size = b.data.toList.length := by rw [Array.length_toList]; rfl
           have h3 : IntKind.i64.max = 9223372036854775807 := by decide
           rw [h3]
           unfold maxLenA at hl
           omega
         simp only [binOp, Op.stringOp]
         rw [if_neg hle]
         rfl
       · cases h)
    | (cases h
       refine ⟨_, ?_, .bool _⟩
       simp only [binOp, Op.stringOp, e1, e2]
       rfl)

/-! ### Equality -/
theorem fpart_rel {P : Program} {F : Nat → Nat → Option Value} {T : TypeId} {cs : List FV} {vs : List Value} {off : Nat} {x : FV} (h : fpart P T cs off = some x)
    (hl : cs.length = vs.length) (hr : ∀ (i : Nat) (a : FV) (b : Value), cs[i]? = some a → vs[i]? = some b → RelF F a b) (w : World) :
    ∃ y, Sem.run P (part T vs.toArray off) w = .ok y w ∧ RelF F x y := by
  unfold fpart at h
  split at h
  · rename_i n h1 h2
    cases hb : Nat.ble (off + n) cs.length with
    | false => rw [hb] at h; simp at h
    | true =>
      rw [hb] at h
      simp at h
      subst h
      refine ⟨.agg ((vs.drop off).take n).toArray, ?_, ?_⟩
      · have : vs.toArray.extract off (off + n) = ((vs.drop off).take n).toArray := by
          apply Array.ext'
          simp [List.extract_eq_take_drop, List.drop_take]
        simp [part, run_isAgg P h1, run_sizeOf P h2, this]
      · refine .agg _ _ (by simp [hl]) ?_
        intro i a b ha hb
        rw [List.getElem?_take] at ha hb
        split at ha
        · rename_i hi
          rw [if_pos hi] at hb
          rw [List.getElem?_drop] at ha hb
          exact hr _ a b ha hb
        · cases ha
  · rename_i n h1 h2
    have hi : off < cs.length := (List.getElem?_eq_some_iff.1 h).1
    have hi' : off < vs.length := by omega
    refine ⟨vs[off], ?_, hr off x vs[off] h (by simp [hi'])⟩
    simp [part, run_isAgg P h1, hi']
  · cases h

theorem feqFields_sound {P : Program} {F : Nat → Nat → Option Value} {d : Nat} (ih : ∀ {t : TypeId} {x y : FV} {vx vy : Value} {b : Bool}, feq P d t x y = some b →
    RelF F x vx → RelF F y vy → ∀ w, Sem.run P (Op.equalIn d t vx vy) w = .ok b w)
    {xs ys : List FV} {vs us : List Value} (hl : xs.length = vs.length) (hr : ∀ (i : Nat) (a : FV) (b : Value), xs[i]? = some a → vs[i]? = some b → RelF F a b)
    (kl : ys.length = us.length) (kr : ∀ (i : Nat) (a : FV) (b : Value), ys[i]? = some a → us[i]? = some b → RelF F a b) (w : World) :
    ∀ {fs : List Field} {b : Bool}, feqFields P (feq P d) xs ys fs = some b → Sem.run P (Op.eqFields d vs.toArray us.toArray fs) w = .ok b w
  | [], b, h => by simp [feqFields] at h; subst h; simp [Op.eqFields]
  | f :: r, b, h => by
    simp only [feqFields] at h
    split at h
    · rename_i hn
      rw [Op.eqFields, if_neg (by simp [hn])]
      exact feqFields_sound ih hl hr kl kr w h
    · rename_i hn
      split at h
      · rename_i x y hx hy
        obtain ⟨vx, r1, r2⟩ := fpart_rel hx hl hr w
        obtain ⟨vy, s1, s2⟩ := fpart_rel hy kl kr w
        rw [Op.eqFields, if_pos hn]
        split at h
        · rename_i he
          simp only [Sem.run_bind, r1, s1, Result.andThen_ok, ih he r2 s2]
          simpa using feqFields_sound ih hl hr kl kr w h
        · rename_i he
          cases h
          simp only [Sem.run_bind, r1, s1, Result.andThen_ok, ih he r2 s2]
          simp
        · cases h
      · cases h

theorem str_beq (a b : ByteArray) : (a == b) = (a.data.toList == b.data.toList) := by
  rw [beq_toListBytes, ByteArray.toList_eq, ByteArray.toList_eq]

theorem feq_sound {P : Program} {F : Nat → Nat → Option Value} : ∀ {d : Nat} {t : TypeId} {x y : FV} {vx vy : Value} {b : Bool}, feq P d t x y = some b →
    RelF F x vx → RelF F y vy → ∀ w, Sem.run P (Op.equalIn d t vx vy) w = .ok b w
  | 0, t, x, y, vx, vy, b, h, _, _, w => by simp [feq] at h
  | d + 1, t, x, y, vx, vy, b, h, hx, hy, w => by
    simp only [feq] at h
    split at h
    · rename_i hu
      split at h
      · cases h; cases hx; cases hy; simp [Op.equalIn, run_underlying P hu]
      · cases h
    · rename_i hu
      split at h
      · split at h
        · rename_i hk
          subst hk
          cases h; cases hx; cases hy; simp [Op.equalIn, run_underlying P hu]
        · cases h
      · cases h
    · rename_i hu
      split at h
      · cases h
        cases hx; cases hy
        simp [Op.equalIn, run_underlying P hu, str_beq]
      · cases h
    · rename_i fs hu
      split at h
      · split at h
        · cases h
        · rename_i hst
          cases hx with
          | agg xs vs hl hr =>
            cases hy with
            | agg ys us kl kr =>
              have hf : P.fieldsOf t = fs := by simp [Program.fieldsOf, hu]
              rw [run_equalIn_struct w d t _ _ (by rw [hf]; exact hu) (by simpa using hst), hf]
              exact feqFields_sound (fun h => feq_sound h) hl hr kl kr w h
      · cases h
    · cases h

section
variable {P : Program} (w : World) (d : Nat) {t : TypeId}
theorem eqI_bool (a b : Bool) (hu : P.underlying t = some .bool) : Sem.run P (Op.equalIn (d + 1) t (.bool a) (.bool b)) w = .ok (a == b) w := by simp [Op.equalIn, run_underlying P hu]
theorem eqI_ptr {e : TypeId} (b : Option Addr) (hu : P.underlying t = some (.pointer e)) : Sem.run P (Op.equalIn (d + 1) t (.pointer none) (.pointer b)) w = .ok b.isNone w := by simp [Op.equalIn, run_underlying P hu]
theorem eqI_ptr' {e : TypeId} (a : Addr) (hu : P.underlying t = some (.pointer e)) : Sem.run P (Op.equalIn (d + 1) t (.pointer (some a)) (.pointer none)) w = .ok false w := by simp [Op.equalIn, run_underlying P hu]
theorem eqI_sl {e : TypeId} (b : Option Addr) (n m k l : Nat) (hu : P.underlying t = some (.slice e)) : Sem.run P (Op.equalIn (d + 1) t (.slice none n m) (.slice b k l)) w = .ok b.isNone w := by simp [Op.equalIn, run_underlying P hu]
theorem eqI_sl' {e : TypeId} (a : Addr) (n m k l : Nat) (hu : P.underlying t = some (.slice e)) : Sem.run P (Op.equalIn (d + 1) t (.slice (some a) n m) (.slice none k l)) w = .ok false w := by simp [Op.equalIn, run_underlying P hu]
theorem eqI_map {k e : TypeId} (b : Option Nat) (hu : P.underlying t = some (.map k e)) : Sem.run P (Op.equalIn (d + 1) t (.map none) (.map b)) w = .ok b.isNone w := by simp [Op.equalIn, run_underlying P hu]
theorem eqI_map' {k e : TypeId} (a : Nat) (hu : P.underlying t = some (.map k e)) : Sem.run P (Op.equalIn (d + 1) t (.map (some a)) (.map none)) w = .ok false w := by simp [Op.equalIn, run_underlying P hu]
theorem eqI_if0 {ms} (hu : P.underlying t = some (.interface ms)) : Sem.run P (Op.equalIn (d + 1) t .nilIface .nilIface) w = .ok true w := by simp [Op.equalIn, run_underlying P hu]
theorem eqI_if {ms} (k : TypeId) (v : Value) (hu : P.underlying t = some (.interface ms)) : Sem.run P (Op.equalIn (d + 1) t (.iface k v) .nilIface) w = .ok false w := by simp [Op.equalIn, run_underlying P hu]
theorem eqI_if' {ms} (k : TypeId) (v : Value) (hu : P.underlying t = some (.interface ms)) : Sem.run P (Op.equalIn (d + 1) t .nilIface (.iface k v)) w = .ok false w := by simp [Op.equalIn, run_underlying P hu]
theorem eqG_if0 {ms} (hu : P.underlying t = some (.interface ms)) (hms : ms.isEmpty = true) : Sem.run P (Op.eqGuardIn (d + 1) t .nilIface .nilIface) w = .ok false w := by simp [Op.eqGuardIn, run_underlying P hu, hms]
end

theorem aEq_sound {P : Program} {G : Gh} {t : TypeId} {x y : AV} {vx vy : Value} {b : Bool} (h : aEq P t x y = some b) (hx : RelA G x vx) (hy : RelA G y vy) (ox oy : Operand) (op : BinOp) (w : World) :
    Sem.run P (eqGuard op t ox oy vx vy) w = .ok () w ∧ Sem.run P (Op.equal t vx vy) w = .ok b w ∧
      (binOp .eql t vx vy = do pure (.bool (← Op.equal t vx vy))) ∧ (binOp .neq t vx vy = do pure (.bool (!(← Op.equal t vx vy)))) := by
  unfold aEq at h
  split at h
  · rename_i l m
    split at h
    · cases h
    · rename_i hg
      have h1 := feq_sound h (relA_c hx) (relA_c hy) w
      cases relA_c hx with
      | agg cs vs hl hr =>
        cases relA_c hy with
        | agg ds us kl kr =>
          refine ⟨run_eqGuard_agg w op t ox oy _ _ (by simpa using hg), h1, rfl, rfl⟩
  · have h1 := feq_sound h (relA_c hx) (relA_c hy) w
    cases relA_c hx; cases relA_c hy
    exact ⟨by cases op <;> simp [eqGuard], h1, rfl, rfl⟩
  · split at h
    · rename_i hu
      cases h
      cases relA_c hx; cases relA_c hy
      exact ⟨by cases op <;> simp [eqGuard], eqI_ptr w 9999 none hu, rfl, rfl⟩
    · cases h
  · split at h
    · rename_i hu
      cases h
      cases hx; cases relA_c hy
      exact ⟨by cases op <;> simp [eqGuard], eqI_ptr' w 9999 _ hu, rfl, rfl⟩
    · cases h
  · split at h
    · rename_i hu
      cases h
      cases hy; cases relA_c hx
      exact ⟨by cases op <;> simp [eqGuard], eqI_ptr w 9999 _ hu, rfl, rfl⟩
    · cases h
  · split at h
    · rename_i hu
      cases h
      cases relA_c hx; cases relA_c hy
      exact ⟨by cases op <;> simp [eqGuard], eqI_sl w 9999 _ _ _ _ _ hu, rfl, rfl⟩
    · cases h
  · split at h
    · rename_i hu
      cases h
      cases relA_c hx; cases relA_c hy
      exact ⟨by cases op <;> simp [eqGuard], eqI_map w 9999 _ hu, rfl, rfl⟩
    · cases h
  · split at h
    · rename_i hu
      cases h
      cases hx; cases relA_c hy
      exact ⟨by cases op <;> simp [eqGuard], eqI_map' w 9999 _ hu, rfl, rfl⟩
    · cases h
  · split at h
    · rename_i hu
      cases h
      cases hy; cases relA_c hx
      exact ⟨by cases op <;> simp [eqGuard], eqI_map w 9999 _ hu, rfl, rfl⟩
    · cases h
  · split at h
    · rename_i ms hu
      split at h
      · rename_i hms
        cases h
        cases relA_c hx; cases relA_c hy
        have he : Sem.run P (Op.eqGuardIn Op.maxDepth t .nilIface .nilIface) w = .ok false w := eqG_if0 w 9999 hu hms
        refine ⟨?_, eqI_if0 w 9999 hu, rfl, rfl⟩
        unfold eqGuard
        cases op <;> simp <;> (cases ox <;> cases oy <;> simp [he])
      · cases h
    · cases h
  · split at h
    · rename_i ms hu
      cases h
      cases relA_c hy
      obtain ⟨k, v, rfl⟩ : ∃ k v, vx = .iface k v := by cases relA_c hx with | iface _ _ v _ => exact ⟨_, v, rfl⟩
      exact ⟨by cases op <;> simp [eqGuard], eqI_if w 9999 k v hu, rfl, rfl⟩
    · cases h
  · split at h
    · rename_i ms hu
      cases h
      cases relA_c hy
      obtain ⟨k, v, rfl⟩ : ∃ k v, vx = .iface k v := by cases hx with | iface _ => exact ⟨_, _, rfl⟩
      exact ⟨by cases op <;> simp [eqGuard], eqI_if w 9999 k v hu, rfl, rfl⟩
    · cases h
  · split at h
    · rename_i ms hu
      cases h
      cases relA_c hx
      obtain ⟨k, v, rfl⟩ : ∃ k v, vy = .iface k v := by cases relA_c hy with | iface _ _ v _ => exact ⟨_, v, rfl⟩
      exact ⟨by cases op <;> simp [eqGuard], eqI_if' w 9999 k v hu, rfl, rfl⟩
    · cases h
  · split at h
    · rename_i ms hu
      cases h
      cases relA_c hx
      obtain ⟨k, v, rfl⟩ : ∃ k v, vy = .iface k v := by cases hy with | iface _ => exact ⟨_, _, rfl⟩
      exact ⟨by cases op <;> simp [eqGuard], eqI_if' w 9999 k v hu, rfl, rfl⟩
    · cases h
  · split at h
    · rename_i hrow
      split at h
      · rename_i hu
        cases h
        cases relA_c hy
        have : ∃ a n c, vx = .slice (some a) n c := by
          cases hx with
          | c hf => cases hf <;> first | exact ⟨_, _, _, rfl⟩ | simp [AV.isRow] at hrow
          | sl => exact ⟨_, _, _, rfl⟩
          | fz => exact ⟨_, _, _, rfl⟩
          | _ => simp [AV.isRow] at hrow
        obtain ⟨a, n, c, rfl⟩ := this
        exact ⟨by cases op <;> simp [eqGuard], eqI_sl' w 9999 _ _ _ _ _ hu, rfl, rfl⟩
      · cases h
    · cases h
  · cases h

theorem bin_sound {P : Program} {G : Gh} {op : BinOp} {t : TypeId} {x y v : AV} {vx vy : Value} (h : aBin P op t x y = some v) (hx : RelA G x vx) (hy : RelA G y vy) (ox oy : Operand) (w : World) :
    ∃ z, Sem.run P (do eqGuard op t ox oy vx vy; binOp op t vx vy) w = .ok z w ∧ RelA G v z := by
  have eqCase : ∀ {v : AV}, (match op with | .eql => (aEq P t x y).map fun b => AV.c (.bool b) | .neq => (aEq P t x y).map fun b => AV.c (.bool !b) | _ => none) = some v →
      ∃ z, Sem.run P (do eqGuard op t ox oy vx vy; binOp op t vx vy) w = .ok z w ∧ RelA G v z := by
    intro v h
    split at h
    · simp only [Option.map_eq_some_iff] at h
      obtain ⟨b, hb, rfl⟩ := h
      obtain ⟨h1, h2, h3, h4⟩ := aEq_sound hb hx hy ox oy .eql w
      exact ⟨.bool b, by simp [Sem.run_bind, h1, h3, h2], .c (.bool b)⟩
    · simp only [Option.map_eq_some_iff] at h
      obtain ⟨b, hb, rfl⟩ := h
      obtain ⟨h1, h2, h3, h4⟩ := aEq_sound hb hx hy ox oy .neq w
      exact ⟨.bool !b, by simp [Sem.run_bind, h1, h4, h2], .c (.bool _)⟩
    · cases h
  unfold aBin at h
  split at h
  · simp only [Option.map_eq_some_iff] at h
    obtain ⟨r, hr, rfl⟩ := h
    cases relA_c hx; cases relA_c hy
    obtain ⟨z, k1, k2⟩ := aInt_sound (P := P) hr t G.F w
    exact ⟨z, by simp [Sem.run_bind, eqGuard_int, k1], .c k2⟩
  · simp only [Option.map_eq_some_iff] at h
    obtain ⟨r, hr, rfl⟩ := h
    cases relA_c hx; cases relA_c hy
    obtain ⟨z, k1, k2⟩ := aStr_sound (P := P) hr t G.F w
    exact ⟨z, by simp [Sem.run_bind, eqGuard_str, k1], .c k2⟩
  · cases op <;> first | exact eqCase h | (simp at h; done)

theorem un_sound {P : Program} {G : Gh} {op : UnOp} {x v : AV} {vx : Value} (h : aUn op x = some v) (hx : RelA G x vx) (w : World) :
    ∃ z, Sem.run P (Op.unary op vx) w = .ok z w ∧ RelA G v z := by
  unfold aUn at h
  split at h
  · cases h; cases relA_c hx; exact ⟨_, by simp [Op.unary], .c (.bool _)⟩
  · cases h; cases relA_c hx; exact ⟨_, by simp [Op.unary, Op.intArith], .c (.int _ _)⟩
  · cases h

end Go.Abs
