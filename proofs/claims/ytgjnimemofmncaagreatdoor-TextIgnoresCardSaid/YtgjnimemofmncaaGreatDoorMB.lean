/-
  An abstract machine over the model, second half: contracts of calls, regions of any order, loops, deferred calls, and closed runs as a function, each sound for the model. No condition.
-/
import Derived.Test.YtgjnimemofmncaaGreatDoorMA
import Derived.Lib.UnsafeStr
import Derived.Attr
import Derived.Below
import Derived.Lib.LaidTab
import Derived.Recover
set_option linter.unusedVariables false
set_option linter.unusedSimpArgs false
namespace Go.Abs
def OpSound (P : Program) (o : Oper) (a : Act) (G : Gh) (S : St) (w : World) : Res → Prop
  | .val v cm => ∃ x G' w', Sem.run P (execOp a.eval o) w = .ok (.value x) w' ∧ RelA G' v x ∧ Inv G' (S.run cm) w' ∧ Ext G S w G' (S.run cm) w'
  | .skip cm => ∃ G' w', Sem.run P (execOp a.eval o) w = .ok .skip w' ∧ Inv G' (S.run cm) w' ∧ Ext G S w G' (S.run cm) w'
  | .call f args => ∃ vals : List Value, Sem.run P (execOp a.eval o) w = Sem.run P (callFunc f vals.toArray) w ∧ RelL G args vals
  | .pan v => ∃ x, Sem.run P (execOp a.eval o) w = .halt (.panic x) w ∧ RelA G v x
  | .any l => ∃ p ∈ l, ∃ x G' w', Sem.run P (execOp a.eval o) w = .ok (.value x) w' ∧ RelA G' p.1 x ∧ Inv G' (S.run p.2) w' ∧ Ext G S w G' (S.run p.2) w'
theorem callee_rel {G : Gh} {g : AV} {x : Value} {f : FuncId} {first caps : List AV} (h : calleeA g = some (f, first, caps)) (hx : RelA G g x) :
    ∃ fs cs : List Value, x = .func (.func f) fs.toArray cs.toArray ∧ RelL G first fs ∧ RelL G caps cs := by
  unfold calleeA at h
  split at h
  · cases h
    cases relA_c hx
    exact ⟨[], [], rfl, ⟨rfl, fun i a b ha => by simp at ha⟩, ⟨rfl, fun i a b ha => by simp at ha⟩⟩
  · cases h
    cases hx with
    | clo hf hc h1 h2 => exact ⟨_, _, rfl, ⟨hf, h1⟩, ⟨hc, h2⟩⟩
  · cases h
theorem mkClo_rel {G : Gh} {f : FuncId} {first caps : List AV} {fs cs : List Value} (h1 : RelL G first fs) (h2 : RelL G caps cs) :
    RelA G (mkClo f first caps) (.func (.func f) fs.toArray cs.toArray) := by
  unfold mkClo
  split
  · have e1 : fs = [] := List.eq_nil_of_length_eq_zero (by simpa using h1.len.symm)
    have e2 : cs = [] := List.eq_nil_of_length_eq_zero (by simpa using h2.len.symm)
    subst e1; subst e2
    exact .c (.fn f)
  · exact .clo h1.len h2.len h1.rel h2.rel
theorem isRef_check {G : Gh} {v : AV} {x : Value} (h : RelA G v x) (hr : v.isRef = true) : ∃ a, x = .pointer (some a) := by
  cases h with
  | ref h => exact ⟨_, rfl⟩
  | fref hF hR => exact ⟨_, rfl⟩
  | gref g => exact ⟨_, rfl⟩
  | _ => simp [AV.isRef] at hr
theorem run_loadBytes' {P : Program} (w : World) : ∀ (ns : List Int) (a : Addr) (acc : ByteArray), (∀ j n, ns[j]? = some n → w.cell? (a.add j) = some (.int .u8 n)) →
    (loadBytes a acc ns.length).run P w = .ok ⟨acc.data ++ (ns.map fun n => UInt8.ofNat n.toNat).toArray⟩ w
  | [], a, acc, _ => by simp [loadBytes]
  | x :: l, a, acc, h => by
    have h0 : w.cell? a = some (.int .u8 x) := by
      have := h 0 x rfl
      simpa [Addr.add] using this
    have ih := run_loadBytes' (P := P) w l (a.add 1) (acc.push (UInt8.ofNat x.toNat)) (fun j y hy => by
      have := h (j + 1) y (by simpa using hy)
      have e : (a.add 1).add j = a.add (j + 1) := by
        unfold Addr.add
        by_cases hj : j = 0
        · subst hj; simp
        · simp [hj]; omega
      rw [e]; exact this)
    simp only [List.length_cons, loadBytes, Sem.run_bind, run_load, h0, Result.andThen]
    have hx : (x.toNat).toUInt8 = UInt8.ofNat x.toNat := rfl
    rw [hx, ih]
    congr 1
    apply ByteArray.ext
    simp [ByteArray.push]
theorem freeze_wh {w : World} {g : Nat} {C : Array Value} {T : TypeId} {lo hi n : Nat} (hC : w.heap[g]? = some (.cells C T (lo, hi))) (hn : n ≠ 0) :
    ∃ fr, w.freeze ⟨g, 0, none⟩ n = wh w (w.heap.setIfInBounds g (.cells C T fr)) := by
  refine ⟨if lo == hi then (0, 0 + n) else (min lo 0, max hi (0 + n)), ?_⟩
  unfold World.freeze
  rw [if_neg hn]
  have : ∀ f : Obj → Obj, ∀ o, w.heap[g]? = some o → w.heap.modify g f = w.heap.setIfInBounds g (f o) := by
    intro f o ho
    apply Array.ext_getElem?
    intro j
    rw [Array.getElem?_modify]
    by_cases hj : g = j
    · subst hj
      have hlt := (Array.getElem?_eq_some_iff.1 ho).1
      rw [if_pos rfl, ho]
      simp [hlt]
    · rw [if_neg hj, Array.getElem?_setIfInBounds_ne hj]
  unfold wh
  rw [this _ _ hC]
theorem unsafeString_sound {P : Program} {G : Gh} {S : St} {w : World} (h : Inv G S w) {pt it ty : TypeId} {b off : Nat} {n : Int} {vx : Value} {v : AV} {cm : List Cmd}
    (he : aUnsafeString P pt b off n S = some (v, cm)) (hx : RelA G (.ref b off) vx) :
    ∃ z G' w', Sem.run P (Builtin.unsafeString_ #[pt, it] ty #[vx, .int .i64 n]) w = .ok z w' ∧ RelA G' v z ∧ Inv G' (S.run cm) w' ∧ Ext G S w G' (S.run cm) w' := by
  unfold aUnsafeString at he
  split at he
  case h_2 => cases he
  rename_i e hp
  split at he
  case h_2 => cases he
  rename_i cs ro T hb
  split at he
  case isFalse => cases he
  rename_i hc
  obtain ⟨rfl, hc1, rfl, hn0, hn1, hn2⟩ := hc
  simp only [Option.map_eq_some_iff, Prod.mk.injEq] at he
  obtain ⟨l, hl, rfl, rfl⟩ := he
  obtain ⟨B, hB, hk, hr, C, lo, hi, hC, hlen, hcell, -⟩ := h.obs b _ hb rfl
  have ho := (h.born b B hB).2
  cases hx with
  | @ref _ _ B' hB' =>
    rw [hB] at hB'
    cases hB'
    obtain ⟨ns, e1, e2⟩ := bytesOf_spec hl
    obtain ⟨m, rfl⟩ := Int.eq_ofNat_of_zero_le (Int.le_of_lt hn0)
    simp only [Int.toNat_natCast] at hn1 e1 hl
    have hnl : ns.length = m := by
      have := congrArg List.length e1
      rw [List.length_take, List.length_map] at this
      omega
    have hcells : ∀ j k, ns[j]? = some k → w.cell? ((⟨B.g, 0, none⟩ : Addr).add j) = some (.int .u8 k) := by
      intro j k hj
      have hjm : j < m := by rw [← hnl]; exact (List.getElem?_eq_some_iff.1 hj).1
      have : cs[j]? = some (AV.c (.int .u8 k)) := by
        have h2 : (cs.take m)[j]? = some (AV.c (.int .u8 k)) := by rw [e1, List.getElem?_map, hj]; rfl
        rw [List.getElem?_take, if_pos hjm] at h2
        exact h2
      obtain ⟨u, u1, u2, u3⟩ := hcell j _ this
      cases relA_c u2
      rw [Addr_add, Nat.zero_add, cell_at hC]
      rw [ho, Nat.zero_add] at u1
      exact u1
    have hlb := run_loadBytes' (P := P) w ns ⟨B.g, 0, none⟩ .empty hcells
    have hsh : w.shape? B.g = some (T, C.size) := by unfold World.shape?; rw [hC]
    have hlies := Lib.liesAt_bytes (P := P) (e := T) hc1 (C.size / P.cellsOf T) m (by rw [hc1]; simp; omega)
    have hm0 : m ≠ 0 := by omega
    obtain ⟨fr, hfr⟩ := freeze_wh hC hm0
    obtain ⟨why, hdef⟩ : ∃ why, Builtin.unsafeString_ #[pt, it] ty #[.pointer (some ⟨B.g, 0, none⟩), .int .i64 (m : Int)] =
        (do
          let n ← asInt (.int .i64 (m : Int))
          if n < 0 then runtimePanic (.error why)
          if n > IntKind.i64.max then unsupported (.unsafePointer "String: a length above the largest int")
          if n = 0 then pure (.string .empty)
          else if ← variablesAt ⟨B.g, 0, none⟩ (← elemOf pt) n.toNat then do
            let s ← loadBytes ⟨B.g, 0, none⟩ .empty n.toNat
            freeze ⟨B.g, 0, none⟩ n.toNat
            pure (.string s)
          else unsupported (.unsafePointer "String: not so many bytes at ptr")) := ⟨_, rfl⟩
    have hmax : IntKind.i64.max = 9223372036854775807 := rfl
    have hneg : ¬ ((m : Int) < 0) := by omega
    have hbig : ¬ ((9223372036854775807 : Int) < (m : Int)) := by omega
    obtain ⟨k1, k2, k3⟩ := inv_kill h hb rfl hB (.cells C T fr) (fun j v hj => by
      rw [cell_at (wh_set_eq (h.born b B hB).1)]
      have := h.cells _ _ _ hj
      rwa [cell_at hC] at this)
    refine ⟨.string ⟨l.toArray⟩, G, wh w (w.heap.setIfInBounds B.g (.cells C T fr)), ?_, .c (.str ⟨l.toArray⟩), k1, k2⟩
    rw [ho, Nat.zero_add, hdef, ← hfr, e2]
    rw [hnl] at hlb
    simp [asInt, asIntOf, hmax, hneg, hbig, hm0, variablesAt, hsh, elemOf, run_underlying P hp, hlies, hlb]
theorem builtin_sound {P : Program} {G : Gh} {S : St} {w : World} (h : Inv G S w) {b : Builtin} {ts : Array TypeId} {ty : TypeId} {cst : Array Bool} {args : List AV} {vals : List Value} {v : AV}
    {cm : List Cmd} (he : aBuiltin P b ts.toList args S = some (v, cm)) (hr : RelL G args vals) :
    ∃ z G' w', Sem.run P (builtin b ts ty cst vals.toArray) w = .ok (.value z) w' ∧ RelA G' v z ∧ Inv G' (S.run cm) w' ∧ Ext G S w G' (S.run cm) w' := by
  have one : ∀ {x : AV}, args = [x] → ∃ vx, vals = [vx] ∧ RelA G x vx := fun {x} e => by
    subst e
    match vals, hr with
    | [vx], hr => exact ⟨vx, rfl, hr.rel 0 _ _ rfl rfl⟩
    | [], hr => have := hr.len; simp at this
    | _ :: _ :: _, hr => have := hr.len; simp at this
  have two : ∀ {x y : AV}, args = [x, y] → ∃ vx vy, vals = [vx, vy] ∧ RelA G x vx ∧ RelA G y vy := fun {x y} e => by
    subst e
    match vals, hr with
    | [vx, vy], hr => exact ⟨vx, vy, rfl, hr.rel 0 _ _ rfl rfl, hr.rel 1 _ _ rfl rfl⟩
    | [], hr => have := hr.len; simp at this
    | [_], hr => have := hr.len; simp at this
    | _ :: _ :: _ :: _, hr => have := hr.len; simp at this
  have hts : ∀ l : List TypeId, ts.toList = l → ts = l.toArray := fun l e => by rw [← e]
  unfold aBuiltin at he
  split at he
  · rename_i t x hl
    obtain ⟨vx, rfl, hx⟩ := one rfl
    simp only [Option.map_eq_some_iff, Prod.mk.injEq] at he
    obtain ⟨n, hn, rfl, rfl⟩ := he
    rw [hts _ hl]
    refine ⟨_, G, w, ?_, .c (.int _ _), h, .refl G S w⟩
    simp only [builtin, Sem.run_bind, len_sound h hn hx, Result.andThen_ok]
    rfl
  · rename_i t t' x y hl
    obtain ⟨vx, vy, rfl, hx, hy⟩ := two rfl
    rw [hts _ hl]
    obtain ⟨z, G', w', k1, k2, k3, k4⟩ := append_sound (P := P) (ty := ty) h he hx hy
    refine ⟨z, G', w', ?_, k2, k3, k4⟩
    simp only [builtin, Sem.run_bind, k1, Result.andThen_ok]
    rfl
  · rename_i t t' x y hl
    obtain ⟨vx, vy, rfl, hx, hy⟩ := two rfl
    rw [hts _ hl]
    obtain ⟨z, w', k1, k2, k3, k4⟩ := copy_sound (P := P) (ty := ty) h he hx hy
    refine ⟨z, G, w', ?_, k2, k3, k4⟩
    simp only [builtin, Sem.run_bind, k1, Result.andThen_ok]
    rfl
  · obtain ⟨vx, vy, rfl, hx, hy⟩ := two rfl
    split at he
    · rename_i hk
      subst hk
      cases he
      cases relA_c hx; cases relA_c hy
      refine ⟨.int _ (min _ _), G, w, ?_, .c (.int _ _), h, .refl G S w⟩
      have : ∀ a b : Int, (if b < a then b else a) = min a b := fun a b => by simp only [Int.min_def]; split <;> split <;> omega
      simp [builtin, Builtin.min_, Builtin.min2, this]
    · cases he
  · obtain ⟨vx, vy, rfl, hx, hy⟩ := two rfl
    split at he
    · rename_i hk
      subst hk
      cases he
      cases relA_c hx; cases relA_c hy
      refine ⟨.int _ (max _ _), G, w, ?_, .c (.int _ _), h, .refl G S w⟩
      have : ∀ a b : Int, (if a < b then b else a) = max a b := fun a b => by simp only [Int.max_def]; split <;> split <;> omega
      simp [builtin, Builtin.max_, Builtin.max2, this]
    · cases he
  · rename_i b off len s full
    obtain ⟨vx, rfl, hx⟩ := one rfl
    split at he
    · rename_i hlen
      cases he
      cases hx with
      | @sl _ _ _ _ _ B a cap hB ha hl hr' hf hkn =>
        have hcap : cap ≠ 0 := by omega
        have e1 := ha hcap
        subst e1
        refine ⟨_, G, w, ?_, .ref hB, h, .refl G S w⟩
        simp only [builtin, Sem.run_bind, Lib.run_unsafeSliceData_row w ts ty _ len cap hcap, Result.andThen_ok]
        rfl
    · cases he
  · rename_i pt it b off n hl
    obtain ⟨vx, vy, rfl, hx, hy⟩ := two rfl
    cases relA_c hy
    rw [hts _ hl]
    obtain ⟨z, G', w', k1, k2, k3, k4⟩ := unsafeString_sound (P := P) (it := it) (ty := ty) h he hx
    refine ⟨z, G', w', ?_, k2, k3, k4⟩
    simp only [builtin, Sem.run_bind, k1, Result.andThen_ok]
    rfl
  · cases he
theorem method_run {P : Program} {t : TypeId} {m : String} {f : FuncId} (h : methodA P t m = some f) (v : Value) (w : World) :
    Sem.run P (method (P.types.size + Made.depth) t v m) w = .ok (f, v) w := by
  unfold methodA at h
  split at h
  case h_2 => cases h
  rename_i i e hi hu
  split at h
  case h_2 => cases h
  rename_i mm hmm
  split at h
  case h_2 => cases h
  rename_i f' hp hf
  cases h
  have hpath : mm.path.toList = [] := by
    have : mm.path = #[] := by simpa using hp
    rw [this]
  obtain ⟨k, hk⟩ : ∃ k, P.types.size + Made.depth = k + 1 := ⟨P.types.size + Made.depth - 1, by
    have : 0 < Made.depth := by decide
    omega⟩
  rw [hk]
  simp [method, run_typeInfo P hi, hmm, hpath, follow, hf, receiverAt, run_underlying P hu, Place.get]
theorem evalOp_sound {P : Program} {N : Nat} {G : Gh} {S : St} {w : World} {env : Env} {a : Act} {o : Oper} {r : Res} (hI : Inv G S w) (hE : EnvRel N G env a.tmps)
    (he : evalOp P o env S = some r) : OpSound P o a G S w r := by
  obtain ⟨dst, op, ty, pos, after, guard⟩ := o
  have R := fun {x : Operand} {v : AV} (h : opnd env x = some v) => opnd_rel hE h
  unfold evalOp at he
  cases op <;> simp only [evMove, evPick, evAlloc, evBox, evBuild, evBuildSlice, evLoad, evStore, evNilCheck, evBinOp, evUnOp, evConvert, evMakeInterface, evMakeFunc, evMakeMap, evMakeSlice, evSlice, evFieldAddr, evField, evIndexAddr, evIndex, evLookup, evMapUpdate, evRange, evNextStr, evNextMap, evEntry, evTypeAssert, evExtract, evPanic, evBuiltin, evCall, evInvoke] at he
  case move x =>
    simp only [Option.map_eq_some_iff] at he
    obtain ⟨v, hv, rfl⟩ := he
    exact ⟨_, G, w, rfl, R hv, hI, .refl G S w⟩
  case assign x =>
    simp only [Option.map_eq_some_iff] at he
    obtain ⟨v, hv, rfl⟩ := he
    exact ⟨_, G, w, rfl, R hv, hI, .refl G S w⟩
  case pick c x y =>
    split at he
    · rename_i t hc
      simp only [Option.map_eq_some_iff] at he
      obtain ⟨v, hv, rfl⟩ := he
      have hcb := relA_c (R hc)
      refine ⟨a.eval (bif t then x else y), G, w, ?_, R hv, hI, .refl G S w⟩
      have : a.eval c = .bool t := by generalize a.eval c = z at hcb; cases hcb; rfl
      cases t <;> simp [execOp, this, asBool]
    · cases he
  case alloc t =>
    split at he
    · rename_i z hz
      simp only [Option.map_eq_some_iff] at he
      obtain ⟨r, hr, rfl⟩ := he
      obtain ⟨x, G', w', k1, k2, k3, k4⟩ := alloc_sound (P := P) hI hz hr
      exact ⟨x, G', w', by simp [execOp, k1], k2, k3, k4⟩
    · cases he
  case box t x =>
    split at he
    · rename_i v hv
      simp only [Option.map_eq_some_iff] at he
      obtain ⟨r, hr, rfl⟩ := he
      obtain ⟨G', w', k1, k2, k3, k4⟩ := new_sound (P := P) hI hr (R hv)
      exact ⟨_, G', w', by simp [execOp, Instr.box, k1], k2, k3, k4⟩
    · cases he
  case build t ps =>
    split at he
    · rename_i z l hz hl
      split at he
      · rename_i hok
        simp only [Option.map_eq_some_iff] at he
        obtain ⟨cs, hcs, rfl⟩ := he
        obtain ⟨p1, p2⟩ := partsA_rel hE hl
        obtain ⟨x, k1, k2⟩ := build_sound (P := P) (G := G) (qs := ps.toList.map fun p => (p.1, a.eval p.2)) hz hok hcs (by simp [p1]) (fun i p q hp hq => by
          rw [List.getElem?_map, Option.map_eq_some_iff] at hq
          obtain ⟨q', hq', rfl⟩ := hq
          exact p2 i p q' hp hq') w
        refine ⟨x, G, w, ?_, k2, hI, .refl G S w⟩
        have e1 : (ps.map fun (p : Nat × Operand) => match p with | (i, x) => (i, a.eval x)) = (ps.toList.map fun p => (p.1, a.eval p.2)).toArray := by
          apply Array.ext'; simp
        simp only [execOp]
        rw [e1]
        simp [k1]
      · cases he
    · cases he
  case buildSlice t n ps =>
    split at he
    · rename_i e hu
      split at he
      · rename_i s z l hs hz hl
        split at he
        · rename_i hc
          split at he
          · rename_i cs hcs
            split at he
            · rename_i hsc
              cases he
              obtain ⟨p1, p2⟩ := partsA_rel hE hl
              obtain ⟨x, G', w', k1, k2, k3, k4⟩ := buildSlice_sound (P := P) (qs := ps.toList.map fun p => (p.1, a.eval p.2)) hI hu hs hz hc.1 hc.2.1 hc.2.2 hcs hsc (by simp [p1]) (fun i p q hp hq => by
                rw [List.getElem?_map, Option.map_eq_some_iff] at hq
                obtain ⟨q', hq', rfl⟩ := hq
                exact p2 i p q' hp hq')
              refine ⟨x, G', w', ?_, k2, k3, k4⟩
              have e1 : (ps.map fun (p : Nat × Operand) => match p with | (i, x) => (i, a.eval x)) = (ps.toList.map fun p => (p.1, a.eval p.2)).toArray := by
                apply Array.ext'; simp
              simp only [execOp]
              rw [e1]
              simp [k1]
            · cases he
          · cases he
        · cases he
      · cases he
    · cases he
  case load t x =>
    split at he
    · rename_i v hv
      simp only [Option.map_eq_some_iff] at he
      obtain ⟨r, hr, rfl⟩ := he
      obtain ⟨x, k1, k2⟩ := load_sound (P := P) hI hr (R hv)
      exact ⟨x, G, w, by simp [execOp, k1], k2, hI, .refl G S w⟩
    · cases he
  case store t x y =>
    split at he
    · rename_i p v hp hv
      simp only [Option.map_eq_some_iff] at he
      obtain ⟨r, hr, rfl⟩ := he
      obtain ⟨w', k1, k2, k3⟩ := store_sound (P := P) hI hr (R hp) (R hv)
      exact ⟨G, w', by simp [execOp, k1], k2, k3⟩
    · cases he
  case nilCheck x =>
    split at he
    · rename_i v hv
      split at he
      · rename_i hr
        cases he
        obtain ⟨q, hq⟩ := isRef_check (R hv) hr
        refine ⟨a.eval x, G, w, ?_, R hv, hI, .refl G S w⟩
        simp [execOp, hq]
      · cases he
    · cases he
  case binOp op t x y yt =>
    split at he
    · rename_i p q hp hq
      simp only [Option.map_eq_some_iff] at he
      obtain ⟨v, hv, rfl⟩ := he
      obtain ⟨z, k1, k2⟩ := bin_sound (P := P) hv (R hp) (R hq) x y w
      refine ⟨z, G, w, ?_, k2, hI, .refl G S w⟩
      simp only [execOp, Sem.run_bind] at k1 ⊢
      rw [k1]; rfl
    · cases he
  case unOp op t x =>
    split at he
    · rename_i p hp
      simp only [Option.map_eq_some_iff] at he
      obtain ⟨v, hv, rfl⟩ := he
      obtain ⟨z, k1, k2⟩ := un_sound (P := P) hv (R hp) w
      exact ⟨z, G, w, by simp [execOp, k1], k2, hI, .refl G S w⟩
    · cases he
  case convert src dst x =>
    split at he
    · rename_i p hp
      simp only [Option.map_eq_some_iff] at he
      obtain ⟨⟨v, S'⟩, hv, rfl⟩ := he
      obtain ⟨z, G', w', k1, k2, k3, k4⟩ := conv_sound (P := P) hI hv (R hp)
      exact ⟨z, G', w', by simp [execOp, k1], k2, k3, k4⟩
    · cases he
  case makeInterface t x =>
    split at he
    · cases he
    · rename_i p d hni hp hd
      cases he
      refine ⟨.iface t (a.eval x), G, w, ?_, mkIface_rel (R hp), hI, .refl G S w⟩
      have : ∀ ms, d ≠ .interface ms := fun ms e => hni ms (by rw [e])
      cases d <;> first | exact absurd rfl (this _) | simp [execOp, Instr.makeInterface, run_underlying P hd]
    · cases he
  case makeFunc fn first caps =>
    cases fn with
    | func f =>
      simp only at he
      split at he
      · rename_i l m hl hm
        cases he
        have r1 := opnds_rel hE hl
        have r2 := opnds_rel hE hm
        refine ⟨_, G, w, ?_, mkClo_rel r1 r2, hI, .refl G S w⟩
        have e1 : first.map a.eval = (first.toList.map a.eval).toArray := by apply Array.ext'; simp
        have e2 : caps.map a.eval = (caps.toList.map a.eval).toArray := by apply Array.ext'; simp
        simp only [execOp, Instr.makeFunc, e1, e2]
        rfl
      · cases he
    | _ => simp at he
  case makeMap t r =>
    cases r with
    | none =>
      simp only [Option.some.injEq] at he
      subst he
      obtain ⟨x, G', w', k1, k2, k3, k4⟩ := makeMap_sound (P := P) hI t
      exact ⟨x, G', w', by simp only [execOp, Option.map_none, Sem.run_bind, k1]; rfl, k2, k3, k4⟩
    | some r => simp at he
  case makeSlice t x y =>
    split at he
    · rename_i p q e hp hq hu
      split at he
      · rename_i i z hi hz
        split at he
        · rename_i hc
          cases he
          have ha := relA_c (R hp)
          have hb := relA_c (R hq)
          obtain ⟨v, G', w', k1, k2, k3, k4⟩ := makeSlice_sound (P := P) hI hu hi hz hc.1 hc.2.1 hc.2.2.1 hc.2.2.2.1 hc.2.2.2.2.1 hc.2.2.2.2.2
          refine ⟨v, G', w', ?_, k2, k3, k4⟩
          have ea : a.eval x = .int .i64 p := by generalize a.eval x = z at ha; cases ha; rfl
          have eb : a.eval y = .int .i64 q := by generalize a.eval y = z at hb; cases hb; rfl
          simp only [execOp, ea, eb, Sem.run_bind, k1]; rfl
        · cases he
      · cases he
    · cases he
  case slice t x lo hi mx =>
    split at he
    · rename_i p l h m hp hl hh hm
      simp only [Option.map_eq_some_iff] at he
      obtain ⟨v, hv, rfl⟩ := he
      obtain ⟨y, k1, k2⟩ := slice_sound (P := P) hI hv (R hp) (optA_rel hE hl) (optA_rel hE hh) (optA_rel hE hm)
      exact ⟨y, G, w, by simp only [execOp, Sem.run_bind, k1]; rfl, k2, hI, .refl G S w⟩
    · cases he
  case fieldAddr t x f =>
    split at he
    · rename_i b off T d hx hf
      split at he
      · rename_i n hn
        cases he
        have hr := R hx
        have : ∃ B : Base, a.eval x = .pointer (some ⟨B.g, B.o + off, none⟩) ∧ G.ρ b = some B := by
          generalize a.eval x = z at hr
          cases hr with
          | ref hB => exact ⟨_, rfl, hB⟩
        obtain ⟨B, h1, hB⟩ := this
        refine ⟨.pointer (some ⟨B.g, B.o + off + d, none⟩), G, w, ?_, ?_, hI, .refl G S w⟩
        · simp only [execOp, h1, Sem.run_bind, fieldAt_run hf hn]; rfl
        · have := RelA.ref (G := G) (b := b) (off := off + d) hB
          simpa [Nat.add_assoc] using this
      · cases he
    · rename_i e off T d hx hf
      split at he
      · rename_i n hn
        cases he
        have hr := R hx
        have : ∃ g o, a.eval x = .pointer (some ⟨g, o + off, none⟩) ∧ RelA G (.fref e (off + d)) (.pointer (some ⟨g, o + (off + d), none⟩)) := by
          generalize a.eval x = z at hr
          cases hr with
          | fref hF hR => exact ⟨_, _, rfl, .fref hF hR⟩
        obtain ⟨g, o, h1, h2⟩ := this
        refine ⟨.pointer (some ⟨g, o + off + d, none⟩), G, w, ?_, by simpa [Nat.add_assoc] using h2, hI, .refl G S w⟩
        simp only [execOp, h1, Sem.run_bind, fieldAt_run hf hn]; rfl
      · cases he
    · cases he
  case field t x f =>
    split at he
    · rename_i cs T d hx hf
      simp only [Option.map_eq_some_iff] at he
      obtain ⟨v, hv, rfl⟩ := he
      obtain ⟨vs, h1, h2⟩ := agg_rel_of (R hx)
      obtain ⟨y, k1, k2⟩ := field_sound (P := P) hf hv h2 w
      exact ⟨y, G, w, by simp only [execOp, h1, Sem.run_bind, k1]; rfl, k2, hI, .refl G S w⟩
    · rename_i cs T d hx hf
      simp only [Option.map_eq_some_iff] at he
      obtain ⟨v, hv, rfl⟩ := he
      have hr := R hx
      have : ∃ vs : List Value, a.eval x = .agg vs.toArray ∧ RelL G cs vs := by
        generalize a.eval x = z at hr
        cases hr with
        | agg hl h => exact ⟨_, rfl, hl, h⟩
      obtain ⟨vs, h1, h2⟩ := this
      obtain ⟨y, k1, k2⟩ := field_sound (P := P) hf hv h2 w
      exact ⟨y, G, w, by simp only [execOp, h1, Sem.run_bind, k1]; rfl, k2, hI, .refl G S w⟩
    · cases he
  case indexAddr t x i =>
    split at he
    · rename_i p q hp hq
      simp only [Option.map_eq_some_iff] at he
      obtain ⟨v, hv, rfl⟩ := he
      obtain ⟨y, k1, k2⟩ := indexAddr_sound (P := P) hv (R hp) (R hq) w
      exact ⟨y, G, w, by simp only [execOp, Sem.run_bind, k1]; rfl, k2, hI, .refl G S w⟩
    · cases he
  case index t x i =>
    split at he
    · rename_i p q hp hq
      simp only [Option.map_eq_some_iff] at he
      obtain ⟨v, hv, rfl⟩ := he
      obtain ⟨y, k1, k2⟩ := index_sound (P := P) hv (R hp) (R hq) w
      exact ⟨y, G, w, by simp only [execOp, Sem.run_bind, k1]; rfl, k2, hI, .refl G S w⟩
    · cases he
  case lookup t m k ok =>
    split at he
    · rename_i p q hp hq
      simp only [Option.map_eq_some_iff] at he
      obtain ⟨v, hv, rfl⟩ := he
      obtain ⟨y, k1, k2⟩ := lookup_sound (P := P) hI hv (R hp) (R hq)
      exact ⟨y, G, w, by simp only [execOp, Sem.run_bind, k1]; rfl, k2, hI, .refl G S w⟩
    · cases he
  case mapUpdate t m k v =>
    split at he
    · rename_i p q x hp hq hx
      simp only [Option.map_eq_some_iff] at he
      obtain ⟨S', hS, rfl⟩ := he
      obtain ⟨w', k1, k2, k3⟩ := mapUpdate_sound (P := P) hI hS (R hp) (R hq) (R hx)
      exact ⟨G, w', by simp only [execOp, Sem.run_bind, k1]; rfl, k2, k3⟩
    · cases he
  case insert t m k v =>
    split at he
    · rename_i p q x hp hq hx
      simp only [Option.map_eq_some_iff] at he
      obtain ⟨S', hS, rfl⟩ := he
      obtain ⟨w', k1, k2, k3⟩ := mapUpdate_sound (P := P) hI hS (R hp) (R hq) (R hx)
      exact ⟨G, w', by simp only [execOp, Sem.run_bind, k1]; rfl, k2, k3⟩
    · cases he
  case range t x =>
    split at he
    · rename_i s hu hx
      cases he
      obtain ⟨y, G', w', k1, k2, k3, k4⟩ := range_sound (P := P) hI hu (R hx)
      exact ⟨y, G', w', by simp only [execOp, Sem.run_bind, k1]; rfl, k2, k3, k4⟩
    · rename_i kt et hu hx
      cases he
      obtain ⟨y, G', w', k1, k2, k3, k4⟩ := rangeNil_sound (P := P) hI hu (R hx)
      exact ⟨y, G', w', by simp only [execOp, Sem.run_bind, k1]; rfl, k2, k3, k4⟩
    · rename_i kt et b hu hx
      split at he
      · rename_i es born clock hb
        cases he
        obtain ⟨y, G', w', k1, k2, k3, k4⟩ := rangeMap_sound (P := P) hI hu hb (R hx)
        exact ⟨y, G', w', by simp only [execOp, Sem.run_bind, k1]; rfl, k2, k3, k4⟩
      · cases he
    · cases he
  case next x isString =>
    cases isString with
    | false =>
      simp only at he
      split at he
      · rename_i b hx
        unfold aNextMap at he
        split at he
        · rename_i hb
          cases he
          obtain ⟨y, k1, k2⟩ := nextNil_sound (P := P) (ty := ty) hI hb (R hx)
          exact ⟨y, G, w, by simp only [execOp, Sem.run_bind, k1]; rfl, k2, hI, .refl G S w⟩
        · rename_i m clock seen hb
          unfold aNextIn at he
          split at he
          · rename_i es born ck hm
            split at he
            · rename_i hc
              obtain ⟨rfl, hc2⟩ := hc
              obtain ⟨n1, n2⟩ := nextMap_sound (P := P) (ty := ty) hI hb hm hc2 (R hx)
              cases he
              unfold nextRes
              split
              · rename_i hl
                obtain ⟨y, k1, k2⟩ := n1 hl
                exact ⟨y, G, w, by simp only [execOp, Sem.run_bind, k1]; rfl, k2, hI, .refl G S w⟩
              · rename_i l hl
                obtain ⟨p, hp, y, w', k1, k2, k3, k4⟩ := n2 hl
                exact ⟨_, List.mem_map.2 ⟨p, hp, rfl⟩, y, G, w', by simp only [execOp, Sem.run_bind, k1]; rfl, k2, k3, k4⟩
            · cases he
          · cases he
        · cases he
      · cases he
    | true =>
      simp only at he
      split at he
      · rename_i b hx
        split at he
        · rename_i s pos hb
          have := next_sound (P := P) (ty := ty) hI hb (R hx)
          split at he
          · rename_i hp
            cases he
            rw [if_pos hp] at this
            obtain ⟨y, w', k1, k2, k3, k4⟩ := this
            exact ⟨y, G, w', by simp only [execOp, Sem.run_bind, k1]; rfl, k2, k3, k4⟩
          · rename_i hp
            cases he
            rw [if_neg hp] at this
            obtain ⟨y, k1, k2⟩ := this
            exact ⟨y, G, w, by simp only [execOp, Sem.run_bind, k1]; rfl, k2, hI, .refl G S w⟩
        · cases he
      · cases he
  case entry x =>
    split at he
    · rename_i b hx
      unfold aEntry at he
      split at he
      · rename_i m clock seen hb
        unfold aEntryIn at he
        split at he
        · rename_i es born ck hm
          split at he
          · rename_i n hn
            split at he
            · rename_i hc
              subst hc
              simp only [Option.map_eq_some_iff] at he
              obtain ⟨p, hp, rfl⟩ := he
              obtain ⟨y, k1, k2⟩ := entry_sound (P := P) hI hb hm hn hp (R hx)
              exact ⟨y, G, w, by simp only [execOp, Sem.run_bind, k1]; rfl, k2, hI, .refl G S w⟩
            · cases he
          · cases he
        · cases he
      · cases he
    · cases he
  case typeAssert x xt T ok =>
    split at he
    · rename_i p hp
      simp only [Option.map_eq_some_iff] at he
      obtain ⟨v, hv, rfl⟩ := he
      obtain ⟨y, k1, k2⟩ := assert_sound (P := P) (xT := xt) hv (R hp) w
      exact ⟨y, G, w, by simp only [execOp, Sem.run_bind, k1]; rfl, k2, hI, .refl G S w⟩
    · cases he
  case extract x i =>
    split at he
    · rename_i l hx
      simp only [Option.map_eq_some_iff] at he
      obtain ⟨v, hv, rfl⟩ := he
      have hr := R hx
      have : ∃ vs : List Value, a.eval x = .tuple vs.toArray ∧ RelL G l vs := by
        generalize a.eval x = z at hr
        cases hr with
        | tup hl h => exact ⟨_, rfl, hl, h⟩
      obtain ⟨vs, h1, h2⟩ := this
      obtain ⟨y, hy, hry⟩ := relL_cell h2 hv
      refine ⟨y, G, w, ?_, hry, hI, .refl G S w⟩
      simp [execOp, h1, Instr.extract, hy]
    · cases he
  case panic x =>
    split at he
    · rename_i t v hx
      cases he
      have hr := R hx
      have : ∃ y, a.eval x = .iface t y := by
        generalize a.eval x = z at hr
        cases relA_c hr with
        | iface _ _ y _ => exact ⟨y, rfl⟩
      obtain ⟨y, h1⟩ := this
      refine ⟨a.eval x, ?_, hr⟩
      simp only [execOp, h1, Instr.panic]
      rfl
    · rename_i t v hx
      cases he
      have hr := R hx
      have : ∃ y, a.eval x = .iface t y := by
        generalize a.eval x = z at hr
        cases hr with
        | iface _ => exact ⟨_, rfl⟩
      obtain ⟨y, h1⟩ := this
      refine ⟨a.eval x, ?_, hr⟩
      simp only [execOp, h1, Instr.panic]
      rfl
    · cases he
  case call c =>
    obtain ⟨callee, args, argTypes⟩ := c
    cases callee with
    | builtin b =>
      simp only at he
      split at he
      · rename_i l hl
        simp only [Option.map_eq_some_iff] at he
        obtain ⟨⟨v, S'⟩, hv, rfl⟩ := he
        have hr := opnds_rel hE hl
        obtain ⟨z, G', w', k1, k2, k3, k4⟩ := builtin_sound (P := P) (ty := ty) (cst := args.map fun | .const _ => true | _ => false) hI hv hr
        refine ⟨z, G', w', ?_, k2, k3, k4⟩
        have e1 : args.map a.eval = (args.toList.map a.eval).toArray := by apply Array.ext'; simp
        simp only [execOp, resolve, Sem.run_bind, Sem.run_pure, Result.andThen_ok, invoke, e1]
        exact k1
      · cases he
    | value f =>
      simp only at he
      split at he
      · rename_i g l hg hl
        split at he
        · rename_i fid first caps hcal
          cases he
          have hr := opnds_rel hE hl
          obtain ⟨fs, cs, h1, r1, r2⟩ := callee_rel hcal (R hg)
          refine ⟨fs ++ args.toList.map a.eval ++ cs, ?_, relL_append (relL_append r1 hr) r2⟩
          have e1 : args.map a.eval = (args.toList.map a.eval).toArray := by apply Array.ext'; simp
          have e2 : fs.toArray ++ (args.toList.map a.eval).toArray ++ cs.toArray = (fs ++ args.toList.map a.eval ++ cs).toArray := by apply Array.ext'; simp
          simp only [execOp, resolve, h1, Deferred.ofValue, Sem.run_bind, Sem.run_pure, Result.andThen_ok, invoke, e1, e2]
        · cases he
      · cases he
    | invoke recv m =>
      simp only at he
      have key : ∀ {t : TypeId} {v : AV} {vv : Value} {l : List AV}, opnds env args.toList = some l → a.eval recv = .iface t vv → RelA G v vv → (methodA P t m).map (fun f => Res.call f (v :: l)) = some r → OpSound P ⟨dst, .call ⟨.invoke recv m, args, argTypes⟩, ty, pos, after, guard⟩ a G S w r := by
        intro t v vv l hl hrecv hv he
        simp only [Option.map_eq_some_iff] at he
        obtain ⟨f, hf, rfl⟩ := he
        have hr := opnds_rel hE hl
        have hvl : RelL G (v :: l) (vv :: args.toList.map a.eval) := ⟨by simp [hr.len], fun i a' b' ha' hb' => by
          cases i with
          | zero => simp at ha' hb'; subst ha'; subst hb'; exact hv
          | succ i => exact hr.rel i a' b' (by simpa using ha') (by simpa using hb')⟩
        refine ⟨vv :: args.toList.map a.eval, ?_, hvl⟩
        have e1 : args.map a.eval = (args.toList.map a.eval).toArray := by apply Array.ext'; simp
        have hm := method_run (P := P) hf vv w
        have e3 : (#[Value.iface t vv] ++ (args.toList.map a.eval).toArray).extract 1 (#[Value.iface t vv] ++ (args.toList.map a.eval).toArray).size = (args.toList.map a.eval).toArray := by
          apply Array.ext'; simp
          rw [List.take_of_length_le (by simp)]
        have e4 : (#[vv] ++ (args.toList.map a.eval).toArray) = (vv :: args.toList.map a.eval).toArray := by apply Array.ext'; simp
        have e5 : (#[Value.iface t vv] ++ (args.toList.map a.eval).toArray)[0]? = some (Value.iface t vv) := by simp
        simp only [execOp, resolve, hrecv, Sem.run_bind, Sem.run_pure, Result.andThen_ok, invoke, e1, e3, e5, callMethod, run_program, hm, e4]
      split at he
      · rename_i t v l hrc hl
        have hr := R hrc
        obtain ⟨vv, h1, h2⟩ : ∃ vv, a.eval recv = .iface t vv ∧ RelA G v vv := by
          generalize a.eval recv = z at hr
          cases hr with
          | iface h => exact ⟨_, rfl, h⟩
        exact key hl h1 h2 he
      · rename_i t v l hrc hl
        have hr := R hrc
        obtain ⟨vv, h1, h2⟩ : ∃ vv, a.eval recv = .iface t vv ∧ RelA G (.c v) vv := by
          generalize a.eval recv = z at hr
          cases relA_c hr with
          | iface _ _ y h => exact ⟨_, rfl, .c h⟩
        exact key hl h1 h2 he
      · cases he
  all_goals (first | cases he; done | skip)
end Go.Abs

namespace Go.Abs
inductive AX where
  | normal
  | exit (id : Nat)
  | ret
  | panic (v : AV)
def XRel (G : Gh) : AX → Exit → Prop
  | .normal, .normal => True
  | .exit i, .exit j => i = j
  | .ret, .ret => True
  | .panic v, .panic ch => ∃ x, ch = [{ v := x, recovered := false }] ∧ RelA G v x
  | _, _ => False
theorem XRel.mono {G G' : Gh} (hG : G.le G') {x : AX} {e : Exit} (h : XRel G x e) : XRel G' x e := by
  cases x <;> cases e <;> first | exact h | exact h.elim | (obtain ⟨y, h1, h2⟩ := h; exact ⟨y, h1, h2.mono hG⟩)
abbrev AQ := AX → Env → St → Prop
def Post (N : Nat) (G : Gh) (S : St) (w : World) (ds : List Deferred) (Q : AQ) (e : Exit) (a : Act) (w' : World) : Prop :=
  ∃ x env' S' G', Q x env' S' ∧ XRel G' x e ∧ EnvRel N G' env' a.tmps ∧ Inv G' S' w' ∧ Ext G S w G' S' w' ∧ a.defers = ds
theorem Post.trans {N : Nat} {G G1 : Gh} {S S1 : St} {w w1 : World} {ds : List Deferred} {Q : AQ} {e : Exit} {a : Act} {w' : World} (h : Ext G S w G1 S1 w1) (k : Post N G1 S1 w1 ds Q e a w') :
    Post N G S w ds Q e a w' := by
  obtain ⟨x, env', S', G', h1, h2, h3, h4, h5, h6⟩ := k
  exact ⟨x, env', S', G', h1, h2, h3, h4, h.trans h5, h6⟩
def W (P : Program) (N : Nat) (c : Code) (Q : AQ) (env : Env) (S : St) : Prop :=
  ∀ G a w, EnvRel N G env a.tmps → Inv G S w → c.wp P (Post N G S w a.defers Q) a w
inductive CX where
  | ret (v : AV)
  | panic (v : AV)
def CRel (G : Gh) : CX → Ending → Prop
  | .ret v, .returned x => RelA G v x
  | .panic v, .panicked ch => ∃ x, ch = [{ v := x, recovered := false }] ∧ RelA G v x
  | _, _ => False
def CPost (G : Gh) (S : St) (w : World) (R : CX → St → Prop) (e : Ending) (w' : World) : Prop :=
  ∃ x S' G', R x S' ∧ CRel G' x e ∧ Inv G' S' w' ∧ Ext G S w G' S' w'
def Upon (P : Program) (f : FuncId) (vals : Array Value) (w : World) (K : Ending → World → Prop) : Prop :=
  match Sem.run P (callFunc f vals) w with
  | .ok (.enter f' args) w' => Calls P f' args w' K
  | .ok (.value v) w' => K (.returned v) w'
  | _ => False
def WC (P : Program) (f : FuncId) (args : List AV) (R : CX → St → Prop) (S : St) : Prop :=
  ∀ G (vals : List Value) w, RelL G args vals → Inv G S w → Upon P f vals.toArray w (CPost G S w R)
theorem Upon.mono {P : Program} {f : FuncId} {vals : Array Value} {w : World} {K K' : Ending → World → Prop} (h : Upon P f vals w K) (hk : ∀ e w', K e w' → K' e w') : Upon P f vals w K' := by
  unfold Upon at *
  split at h
  · exact Calls.mono h hk
  · exact hk _ _ h
  · exact h.elim
theorem WC.mono {P : Program} {f : FuncId} {args : List AV} {R R' : CX → St → Prop} {S : St} (h : WC P f args R S) (hr : ∀ x S', R x S' → R' x S') : WC P f args R' S :=
  fun G vals w h1 h2 => (h G vals w h1 h2).mono fun e w' ⟨x, S', G', k1, k2, k3, k4⟩ => ⟨x, S', G', hr _ _ k1, k2, k3, k4⟩
theorem W.mono {P : Program} {N : Nat} {c : Code} {Q Q' : AQ} {env : Env} {S : St} (h : W P N c Q env S) (hq : ∀ x env S, Q x env S → Q' x env S) : W P N c Q' env S :=
  fun G a w h1 h2 => wp_mono (h G a w h1 h2) fun e a w ⟨x, env', S', G', k1, k2⟩ => ⟨x, env', S', G', hq _ _ _ k1, k2⟩
def Is (v : AV) (S0 : St) (x : CX) (S : St) : Prop := x = .ret v ∧ S = S0
def Env.setO (env : Env) (d : Option Tmp) (v : AV) : Env :=
  match d with
  | some t => env.set t v
  | none => env
def dstOk (N : Nat) (d : Option Tmp) : Prop :=
  match d with
  | some t => t < N
  | none => True
theorem EnvRel.put {N : Nat} {G : Gh} {env : Env} {a : Act} (h : EnvRel N G env a.tmps) {d : Option Tmp} (hd : dstOk N d) {v : AV} {x : Value} (hv : RelA G v x) :
    EnvRel N G (env.setO d v) (a.put d x).tmps := by
  cases d with
  | none => exact h
  | some t => exact h.set hd hv
theorem put_defers (a : Act) (d : Option Tmp) (x : Value) : (a.put d x).defers = a.defers := by cases d <;> rfl
def wantedA (ops : List Oper) (env : Env) (o : Oper) : Option Bool :=
  match o.guard with
  | none => some true
  | some (j, want) =>
    match ops[j]? with
    | some g =>
      match g.dst with
      | some t =>
        match env.get t with
        | .c (.bool b) => some (b == want)
        | .tup [] => some false
        | _ => none
      | none => none
    | none => none
theorem wantedA_sound {N : Nat} {G : Gh} {ops : List Oper} {env : Env} {a : Act} {o : Oper} {b : Bool} (hE : EnvRel N G env a.tmps) (h : wantedA ops env o = some b) :
    Region.wanted o (yielded ops.toArray a.tmps) = b := by
  unfold wantedA at h
  unfold Region.wanted
  split at h
  · cases h; rename_i hg; simp [hg]
  · rename_i j want hg
    split at h
    · rename_i g hj
      split at h
      · rename_i t ht
        have hr := hE.get t
        simp only [hg, yielded, List.getElem?_toArray, hj, Option.bind_some, ht]
        split at h
        · rename_i c hc
          cases h
          rw [hc] at hr
          have := relA_c hr
          have hv : a.tmps.getD t undef = .bool c := by generalize a.tmps.getD t undef = z at this; cases this; rfl
          have hlt : a.tmps[t]? = some (.bool c) := by
            rcases Nat.lt_or_ge t a.tmps.size with h | h
            · simp [Array.getD, h] at hv; simp [h, hv]
            · simp [Array.getD, Nat.not_lt.2 h, undef] at hv
          simp [hlt]
        · rename_i hc
          cases h
          rw [hc] at hr
          have hv : a.tmps.getD t undef = .tuple #[] := by
            generalize a.tmps.getD t undef = z at hr
            cases hr with
            | tup hl h =>
              rename_i vs
              have : vs = [] := List.eq_nil_of_length_eq_zero (by simpa using hl.symm)
              subst this; rfl
          rcases Nat.lt_or_ge t a.tmps.size with h | h
          · simp [Array.getD, h] at hv; simp [h, hv]
          · simp [Array.getElem?_eq_none h]
        · cases h
      · cases h
    · cases h
def callK (K : Env → St → Prop) (Q : AQ) (env : Env) (d : Option Tmp) (x : CX) (S : St) : Prop :=
  match x with
  | .ret v => K (env.setO d v) S
  | .panic v => Q (.panic v) env S
def resK (P : Program) (K : Env → St → Prop) (Q : AQ) (env : Env) (S : St) (d : Option Tmp) : Option Res → Prop
  | none => False
  | some (.val v cm) => K (env.setO d v) (S.run cm)
  | some (.skip cm) => K (env.setO d (.tup [])) (S.run cm)
  | some (.call f args) => WC P f args (callK K Q env d) S
  | some (.pan v) => Q (.panic v) env S
  | some (.any l) => ∀ p ∈ l, K (env.setO d p.1) (S.run p.2)
def guardK (P : Program) (K : Env → St → Prop) (Q : AQ) (o : Oper) (env : Env) (S : St) : Option Bool → Prop
  | none => False
  | some false => K (env.setO o.dst (.tup [])) S
  | some true => resK P K Q env S o.dst (evalOp P o env S)
def WOps (P : Program) (N : Nat) (ops : List Oper) (Q : AQ) : List Oper → Env → St → Prop
  | [], env, S => Q .normal env S
  | o :: rest, env, S => dstOk N o.dst ∧ guardK P (WOps P N ops Q rest) Q o env S (wantedA ops env o)
theorem undef_rel (G : Gh) : RelA G (.tup []) undef := by
  have := RelA.tup (G := G) (cs := []) (vs := []) rfl (fun i a b ha => by simp at ha)
  exact this
theorem wops_sound {P : Program} {N : Nat} {ops : List Oper} {Q : AQ} {G0 : Gh} {S0 : St} {w0 : World} : ∀ (l : List Nat) (rest : List Oper) (env : Env) (S : St) (G : Gh) (a : Act) (w : World),
    l.map (fun i => ops[i]?) = rest.map some → WOps P N ops Q rest env S → EnvRel N G env a.tmps → Inv G S w → Ext G0 S0 w0 G S w →
    wpOps P ops.toArray (Post N G0 S0 w0 a.defers Q) l a w
  | [], [], env, S, G, a, w, _, h, hE, hI, hX => ⟨.normal, env, S, G, h, trivial, hE, hI, hX, rfl⟩
  | [], _ :: _, _, _, _, _, _, hl, _, _, _, _ => by simp at hl
  | _ :: _, [], _, _, _, _, _, hl, _, _, _, _ => by simp at hl
  | i :: l, o :: rest, env, S, G, a, w, hl, h, hE, hI, hX => by
    simp only [List.map_cons, List.cons.injEq] at hl
    obtain ⟨ho, hl⟩ := hl
    simp only [WOps] at h
    obtain ⟨hd, h⟩ := h
    have hoa : ops.toArray[i]? = some o := by simpa using ho
    simp only [wpOps, hoa]
    have hput : ∀ (x : Value), (a.put o.dst x).defers = a.defers := put_defers a o.dst
    cases hw : wantedA ops env o with
    | none => rw [hw] at h; exact h.elim
    | some b =>
    rw [hw] at h
    cases b with
    | false =>
      replace h : WOps P N ops Q rest (env.setO o.dst (.tup [])) S := h
      rw [wantedA_sound hE hw]
      simp only [Bool.false_eq_true, if_false]
      have := wops_sound l rest _ S G (a.put o.dst undef) w hl h (hE.put hd (undef_rel G)) hI hX
      rwa [hput] at this
    | true =>
      replace h : resK P (WOps P N ops Q rest) Q env S o.dst (evalOp P o env S) := h
      rw [wantedA_sound hE hw]
      simp only [if_true]
      left
      cases he : evalOp P o env S with
      | none => rw [he] at h; exact h.elim
      | some r =>
      rw [he] at h
      cases r with
      | val v cm =>
        obtain ⟨x, G', w', k1, k2, k3, k4⟩ := evalOp_sound (P := P) hI hE he
        simp only [Oper.wp, k1, Oper.upon]
        have := wops_sound l rest _ _ G' (a.put o.dst x) w' hl h ((hE.mono k4.le).put hd k2) k3 (hX.trans k4)
        rwa [hput] at this
      | skip cm =>
        obtain ⟨G', w', k1, k3, k4⟩ := evalOp_sound (P := P) hI hE he
        simp only [Oper.wp, k1, Oper.upon]
        have := wops_sound l rest _ _ G' (a.put o.dst undef) w' hl h ((hE.mono k4.le).put hd (undef_rel G')) k3 (hX.trans k4)
        rwa [hput] at this
      | call f args =>
        obtain ⟨vals, k1, k2⟩ := evalOp_sound (P := P) hI hE he
        have hc : Upon P f vals.toArray w (CPost G S w (callK (WOps P N ops Q rest) Q env o.dst)) := h G vals w k2 hI
        simp only [Oper.wp, k1]
        have key : ∀ e w', CPost G S w (callK (WOps P N ops Q rest) Q env o.dst) e w' →
            match e, w' with
            | .returned v, w'' => wpOps P ops.toArray (Post N G0 S0 w0 a.defers Q) l (a.put o.dst v) w''
            | .panicked chain, w'' => Post N G0 S0 w0 a.defers Q (.panic chain) a w''
            | .outgrown, _ => LetsOut (Post N G0 S0 w0 a.defers Q) := by
          rintro e w' ⟨x, S', G', r1, r2, r3, r4⟩
          cases x with
          | ret v =>
            cases e with
            | returned y =>
              have := wops_sound l rest _ _ G' (a.put o.dst y) w' hl r1 ((hE.mono r4.le).put hd r2) r3 (hX.trans r4)
              rwa [hput] at this
            | panicked ch => exact r2.elim
            | outgrown => exact r2.elim
          | panic v =>
            cases e with
            | returned y => exact r2.elim
            | panicked ch => exact ⟨.panic v, env, S', G', r1, r2, hE.mono r4.le, r3, hX.trans r4, rfl⟩
            | outgrown => exact r2.elim
        unfold Upon at hc
        split at hc
        · rename_i f' args' w' hrun
          rw [hrun]
          simp only [Oper.upon]
          exact Calls.mono hc key
        · rename_i v w' hrun
          rw [hrun]
          simp only [Oper.upon]
          exact key _ _ hc
        · exact hc.elim
      | pan v =>
        obtain ⟨x, k1, k2⟩ := evalOp_sound (P := P) hI hE he
        simp only [Oper.wp, k1, Oper.upon]
        exact ⟨.panic v, env, S, G, h, ⟨x, rfl, k2⟩, hE, hI, hX, rfl⟩
      | any l' =>
        obtain ⟨p, hp, x, G', w', k1, k2, k3, k4⟩ := evalOp_sound (P := P) hI hE he
        simp only [Oper.wp, k1, Oper.upon]
        have := wops_sound l rest _ _ G' (a.put o.dst x) w' hl (h p hp) ((hE.mono k4.le).put hd k2) k3 (hX.trans k4)
        rwa [hput] at this
theorem w_region {P : Program} {N : Nat} {id : Nat} {ops : Array Oper} {Q : AQ} {env : Env} {S : St} (h : WOps P N ops.toList Q ops.toList env S) : W P N (.region id ops false) Q env S := by
  intro G a w hE hI
  refine wp_region ?_
  have := wops_sound (P := P) (List.range ops.size) ops.toList env S G a w (by
    apply List.ext_getElem?
    intro i
    simp only [List.getElem?_map]
    by_cases hi : i < ops.size
    · simp [hi]
    · simp [Nat.not_lt.1 hi]) h hE hI (.refl G S w)
  simpa using this
end Go.Abs

namespace Go.Abs
def thenX (next : Env → St → Prop) (Q : AQ) : AQ
  | .normal, env, S => next env S
  | x, env, S => Q x env S
def blockX (id : Nat) (Q : AQ) : AQ
  | .exit j, env, S => if j = id then Q .normal env S else Q (.exit j) env S
  | x, env, S => Q x env S
theorem w_seq {P : Program} {N : Nat} {x y : Code} {Q : AQ} {env : Env} {S : St} (h : W P N x (thenX (W P N y Q) Q) env S) : W P N (.seq x y) Q env S := by
  intro G a w hE hI
  refine wp_seq (wp_mono (h G a w hE hI) ?_)
  rintro e a' w' ⟨x, env', S', G', k1, k2, k3, k4, k5, k6⟩
  cases x with
  | normal =>
    cases e with
    | normal =>
      have := k1 G' a' w' k3 k4
      rw [k6] at this
      exact wp_mono this fun e a w h => h.trans k5
    | _ => exact k2.elim
  | exit i =>
    cases e with
    | exit j => exact ⟨.exit i, env', S', G', k1, k2, k3, k4, k5, k6⟩
    | _ => exact k2.elim
  | ret =>
    cases e with
    | ret => exact ⟨.ret, env', S', G', k1, k2, k3, k4, k5, k6⟩
    | _ => exact k2.elim
  | panic v =>
    cases e with
    | panic ch => exact ⟨.panic v, env', S', G', k1, k2, k3, k4, k5, k6⟩
    | _ => exact k2.elim
theorem w_cond {P : Program} {N : Nat} {c : Operand} {x y : Code} {Q : AQ} {env : Env} {S : St} {t : Bool} (hc : opnd env c = some (.c (.bool t)))
    (ht : t = true → W P N x Q env S) (hf : t = false → W P N y Q env S) : W P N (.cond c x y) Q env S := by
  intro G a w hE hI
  have hr := relA_c (opnd_rel hE hc)
  have : a.eval c = .bool t := by generalize a.eval c = z at hr; cases hr; rfl
  exact wp_cond_split this (fun h => ht h G a w hE hI) (fun h => hf h G a w hE hI)
theorem w_block {P : Program} {N : Nat} {id : Nat} {c : Code} {Q : AQ} {env : Env} {S : St} (h : W P N c (blockX id Q) env S) : W P N (.block id c) Q env S := by
  intro G a w hE hI
  refine wp_block (wp_mono (h G a w hE hI) ?_)
  rintro e a' w' ⟨x, env', S', G', k1, k2, k3, k4, k5, k6⟩
  cases x with
  | normal =>
    cases e with
    | normal => exact ⟨.normal, env', S', G', k1, k2, k3, k4, k5, k6⟩
    | _ => exact k2.elim
  | exit i =>
    cases e with
    | exit j =>
      have e1 : i = j := k2
      subst e1
      by_cases hid : i = id
      · subst hid
        simp only [blockX, if_true] at k1
        simp only [Exit.inBlock, if_true]
        exact ⟨.normal, env', S', G', k1, trivial, k3, k4, k5, k6⟩
      · simp only [blockX, if_neg hid] at k1
        simp only [Exit.inBlock, if_neg hid]
        exact ⟨.exit i, env', S', G', k1, rfl, k3, k4, k5, k6⟩
    | _ => exact k2.elim
  | ret =>
    cases e with
    | ret => exact ⟨.ret, env', S', G', k1, k2, k3, k4, k5, k6⟩
    | _ => exact k2.elim
  | panic v =>
    cases e with
    | panic ch => exact ⟨.panic v, env', S', G', k1, k2, k3, k4, k5, k6⟩
    | _ => exact k2.elim
theorem w_skip {P : Program} {N : Nat} {Q : AQ} {env : Env} {S : St} (h : Q .normal env S) : W P N .skip Q env S :=
  fun G a w hE hI => wp_skip ⟨.normal, env, S, G, h, trivial, hE, hI, .refl G S w, rfl⟩
theorem w_exit {P : Program} {N id : Nat} {Q : AQ} {env : Env} {S : St} (h : Q (.exit id) env S) : W P N (.exit id) Q env S :=
  fun G a w hE hI => wp_exit ⟨.exit id, env, S, G, h, rfl, hE, hI, .refl G S w, rfl⟩
theorem w_ret {P : Program} {N : Nat} {Q : AQ} {env : Env} {S : St} (h : Q .ret env S) : W P N .ret Q env S :=
  fun G a w hE hI => wp_ret ⟨.ret, env, S, G, h, trivial, hE, hI, .refl G S w, rfl⟩
def LoopWp (P : Program) (c : Code) (Q : Exit → Act → World → Prop) (a : Act) (w : World) : Prop :=
  ∀ (b : Frame) (k : List Item) (cs : List Frame), ∃ e a' w', Q e a' w' ∧ Arrives P (lone (b.at a (.code c :: .inLoop c :: k)) cs w) b k cs e a' w'
theorem LoopWp.mono {P : Program} {c : Code} {Q Q' : Exit → Act → World → Prop} {a : Act} {w : World} (h : LoopWp P c Q a w) (hq : ∀ e a w, Q e a w → Q' e a w) : LoopWp P c Q' a w :=
  fun b k cs => let ⟨e, a', w', q, r⟩ := h b k cs; ⟨e, a', w', hq _ _ _ q, r⟩
theorem wp_of_loopWp {P : Program} {c : Code} {Q : Exit → Act → World → Prop} {a : Act} {w : World} (h : LoopWp P c Q a w) : (Code.loop c).wp P Q a w :=
  fun b k cs => let ⟨e, a', w', q, r⟩ := h b k cs; ⟨e, a', w', q, .of_steps (.one step_loop) r⟩
theorem loopWp_unfold {P : Program} {c : Code} {Q : Exit → Act → World → Prop} {a : Act} {w : World} (h : c.wp P (Exit.then (LoopWp P c Q) Q) a w) : LoopWp P c Q a w := by
  intro b k cs
  obtain ⟨e, a₁, w₁, hq, harr⟩ := h b (.inLoop c :: k) cs
  cases e with
  | normal =>
    obtain ⟨e₂, a₂, w₂, hq₂, harr₂⟩ := hq b k cs
    exact ⟨e₂, a₂, w₂, hq₂, .of_steps (Steps.trans harr (.one step_inLoop)) harr₂⟩
  | exit id => exact ⟨_, a₁, w₁, hq, .pass (x := .inLoop c) rfl (fun _ _ => .inl (by simp)) harr⟩
  | goto l => exact ⟨_, a₁, w₁, hq, .pass (x := .inLoop c) rfl (fun _ _ => .inl (by simp)) harr⟩
  | ret => exact ⟨_, a₁, w₁, hq, .pass (x := .inLoop c) rfl (fun _ _ => .inl (by simp)) harr⟩
  | panic ch => exact ⟨_, a₁, w₁, hq, .pass (x := .inLoop c) rfl (fun _ _ => .inl (by simp)) harr⟩
  | outgrown => exact ⟨_, a₁, w₁, hq, .pass (x := .inLoop c) rfl (fun _ _ => .inl (by simp)) harr⟩
def WLoop (P : Program) (N : Nat) (c : Code) (Q : AQ) (env : Env) (S : St) : Prop :=
  ∀ G a w, EnvRel N G env a.tmps → Inv G S w → LoopWp P c (Post N G S w a.defers Q) a w
theorem w_loop {P : Program} {N : Nat} {c : Code} {Q : AQ} {env : Env} {S : St} (h : WLoop P N c Q env S) : W P N (.loop c) Q env S :=
  fun G a w hE hI => wp_of_loopWp (h G a w hE hI)
theorem wloop_unfold {P : Program} {N : Nat} {c : Code} {Q : AQ} {env : Env} {S : St} (h : W P N c (thenX (WLoop P N c Q) Q) env S) : WLoop P N c Q env S := by
  intro G a w hE hI
  refine loopWp_unfold (wp_mono (h G a w hE hI) ?_)
  rintro e a' w' ⟨x, env', S', G', k1, k2, k3, k4, k5, k6⟩
  cases x with
  | normal =>
    cases e with
    | normal =>
      have := k1 G' a' w' k3 k4
      rw [k6] at this
      exact this.mono fun e a w h => h.trans k5
    | _ => exact k2.elim
  | exit i =>
    cases e with
    | exit j => exact ⟨.exit i, env', S', G', k1, k2, k3, k4, k5, k6⟩
    | _ => exact k2.elim
  | ret =>
    cases e with
    | ret => exact ⟨.ret, env', S', G', k1, k2, k3, k4, k5, k6⟩
    | _ => exact k2.elim
  | panic v =>
    cases e with
    | panic ch => exact ⟨.panic v, env', S', G', k1, k2, k3, k4, k5, k6⟩
    | _ => exact k2.elim
theorem WLoop.mono {P : Program} {N : Nat} {c : Code} {Q Q' : AQ} {env : Env} {S : St} (h : WLoop P N c Q env S) (hq : ∀ x env S, Q x env S → Q' x env S) : WLoop P N c Q' env S :=
  fun G a w h1 h2 => (h G a w h1 h2).mono fun e a w ⟨x, env', S', G', k1, k2⟩ => ⟨x, env', S', G', hq _ _ _ k1, k2⟩
def WDraw (P : Program) (N : Nat) (id : Nat) (ops : Array Oper) (Q : AQ) (env : Env) (S : St) : Prop := W P N (.region id ops true) Q env S
def condK (A B : Env → St → Prop) (env : Env) (S : St) : Option AV → Prop
  | some (.c (.bool true)) => A env S
  | some (.c (.bool false)) => B env S
  | _ => False
def WCode (P : Program) (N : Nat) : Code → AQ → Env → St → Prop
  | .skip, Q, env, S => Q .normal env S
  | .region id ops d, Q, env, S =>
    match d with
    | false => WOps P N ops.toList Q ops.toList env S
    | true => WDraw P N id ops Q env S
  | .seq x y, Q, env, S => WCode P N x (thenX (WCode P N y Q) Q) env S
  | .cond c x y, Q, env, S => condK (WCode P N x Q) (WCode P N y Q) env S (opnd env c)
  | .block id c, Q, env, S => WCode P N c (blockX id Q) env S
  | .loop c, Q, env, S => WLoop P N c Q env S
  | .exit id, Q, env, S => Q (.exit id) env S
  | .ret, Q, env, S => Q .ret env S
  | _, _, _, _ => False
theorem wcode_sound {P : Program} {N : Nat} : ∀ {c : Code} {Q : AQ} {env : Env} {S : St}, WCode P N c Q env S → W P N c Q env S
  | .skip, _, _, _, h => w_skip h
  | .region id ops false, _, _, _, h => w_region h
  | .region id ops true, _, _, _, h => h
  | .seq x y, Q, env, S, h => w_seq ((wcode_sound (c := x) h).mono fun x env S h => by
      cases x with
      | normal => exact wcode_sound (c := y) h
      | _ => exact h)
  | .cond c x y, Q, env, S, h => by
    simp only [WCode] at h
    unfold condK at h
    split at h
    · rename_i hc
      exact w_cond hc (fun _ => wcode_sound h) (fun e => Bool.noConfusion e)
    · rename_i hc
      exact w_cond hc (fun e => Bool.noConfusion e) (fun _ => wcode_sound h)
    · exact h.elim
  | .block id c, Q, env, S, h => w_block (wcode_sound (c := c) h)
  | .loop c, Q, env, S, h => w_loop h
  | .exit id, _, _, _, h => w_exit h
  | .ret, _, _, _, h => w_ret h
  | .rangeFunc _ _ _ _, _, _, _, h => h.elim
  | .scope _, _, _, _, h => h.elim
  | .label _, _, _, _, h => h.elim
  | .goto _, _, _, _, h => h.elim
  | .refuse _, _, _, _, h => h.elim
theorem wloop_round {P : Program} {N : Nat} {c : Code} {Q : AQ} {env : Env} {S : St} (h : WCode P N c (thenX (WLoop P N c Q) Q) env S) : WLoop P N c Q env S :=
  wloop_unfold (wcode_sound h)
def envOf : List AV → Nat → Env
  | [], _ => fun _ => .undef
  | v :: r, i => fun t => bif Nat.beq i t then v else envOf r (i + 1) t
theorem envOf_get : ∀ (l : List AV) (i t : Nat), envOf l i t = if i ≤ t ∧ t < i + l.length then l.getD (t - i) .undef else .undef
  | [], i, t => by simp [envOf]
  | v :: r, i, t => by
    simp only [envOf]
    by_cases h : i = t
    · subst h
      simp
    · rw [beq_ne h, cond_false, envOf_get r (i + 1) t]
      simp only [List.length_cons]
      by_cases h1 : i + 1 ≤ t ∧ t < i + 1 + r.length
      · rw [if_pos h1, if_pos (by omega)]
        have : t - i = (t - (i + 1)) + 1 := by omega
        rw [this]; simp
      · rw [if_neg h1, if_neg (by omega)]
theorem envOf_nil (i t : Nat) : (envOf [] i).get t = .undef := rfl
theorem envOf_cons (v : AV) (l : List AV) (i : Nat) : envOf (v :: l) i = (envOf l (i + 1)).set i v := rfl
def resA (P : Program) (env : Env) (S : St) : ResultVar → Option AV
  | .tmp t => some (env.get t)
  | .cell a t => aLoad P t (env.get a) S
def resAs (P : Program) (env : Env) (S : St) : List ResultVar → Option (List AV)
  | [] => some []
  | r :: rs =>
    match resA P env S r, resAs P env S rs with
    | some v, some l => some (v :: l)
    | _, _ => none
def resultA (P : Program) (fn : Func) (env : Env) (S : St) : Option AV :=
  match resAs P env S fn.results.toList with
  | some [v] => some v
  | some l => some (.tup l)
  | none => none
def resM (tmps : Array Value) (r : ResultVar) : Sem Value :=
  match r with
  | .tmp t => pure (tmps.getD t undef)
  | .cell a t => asAddr (tmps.getD a undef) >>= fun p => loadVar t p
theorem results_eq (fn : Func) (tmps : Array Value) : results fn tmps = (fn.results.mapM (resM tmps) >>= fun vs => pure (if h : vs.size = 1 then vs[0] else .tuple vs)) := by
  unfold results
  have : (fun x : ResultVar => match x with | .tmp t => (pure (tmps.getD t undef) : Sem Value) | .cell a t => do loadVar t (← asAddr (tmps.getD a undef))) = resM tmps := by
    funext r; cases r <;> rfl
  rw [← this]
  rfl
theorem resAs_sound {P : Program} {N : Nat} {G : Gh} {env : Env} {S : St} {w : World} {tmps : Array Value} (hE : EnvRel N G env tmps) (hI : Inv G S w) : ∀ {rs : List ResultVar} {l : List AV}, resAs P env S rs = some l →
    ∃ vs : List Value, Sem.run P (rs.mapM (resM tmps)) w = .ok vs w ∧ RelL G l vs
  | [], l, h => by simp [resAs] at h; subst h; exact ⟨[], rfl, rfl, fun i a b ha => by simp at ha⟩
  | r :: rs, l, h => by
    simp only [resAs] at h
    split at h
    · rename_i v m h1 h2
      cases h
      obtain ⟨vs, k1, k2⟩ := resAs_sound hE hI h2
      have : ∃ x, Sem.run P (resM tmps r) w = .ok x w ∧ RelA G v x := by
        cases r with
        | tmp t => simp [resA] at h1; subst h1; exact ⟨_, rfl, hE.get t⟩
        | cell a t =>
          simp only [resA] at h1
          obtain ⟨x, x1, x2⟩ := load_sound (P := P) hI h1 (hE.get a)
          have hp : ∃ p, tmps.getD a undef = .pointer (some p) := by
            have hr := hE.get a
            unfold aLoad at h1
            generalize tmps.getD a undef = z at hr
            split at h1
            · rename_i he; rw [he] at hr; cases hr; exact ⟨_, rfl⟩
            · rename_i he; rw [he] at hr; cases hr; exact ⟨_, rfl⟩
            · cases h1
          obtain ⟨p, hp⟩ := hp
          rw [hp] at x1
          refine ⟨x, ?_, x2⟩
          simp only [resM, hp, asAddr]
          simpa [Instr.loadAt, Instr.sureAddr] using x1
      obtain ⟨x, x1, x2⟩ := this
      refine ⟨x :: vs, ?_, by simp [k2.len], ?_⟩
      · rw [List.mapM_cons]
        simp only [Sem.run_bind, x1, Result.andThen_ok, k1]
        rfl
      · intro i a b ha hb
        cases i with
        | zero => simp at ha hb; subst ha; subst hb; exact x2
        | succ i => simp at ha hb; exact k2.rel i a b ha hb
    · cases h
theorem resultA_sound {P : Program} {N : Nat} {G : Gh} {env : Env} {S : St} {w : World} {tmps : Array Value} {fn : Func} {v : AV} (hE : EnvRel N G env tmps) (hI : Inv G S w) (h : resultA P fn env S = some v) :
    ∃ x, Sem.run P (results fn tmps) w = .ok x w ∧ RelA G v x := by
  have hm : ∀ l, resAs P env S fn.results.toList = some l → ∃ vs : List Value, Sem.run P (fn.results.mapM (resM tmps)) w = .ok vs.toArray w ∧ RelL G l vs := by
    intro l hl
    obtain ⟨vs, k1, k2⟩ := resAs_sound (P := P) hE hI hl
    refine ⟨vs, ?_, k2⟩
    rw [Array.mapM_eq_mapM_toList]
    simp only [Sem.run_map, k1, Result.andThen_ok]
  unfold resultA at h
  split at h
  · rename_i u hl
    cases h
    obtain ⟨vs, k1, k2⟩ := hm _ hl
    match vs, k2 with
    | [x], k2 =>
      refine ⟨x, ?_, k2.rel 0 _ _ rfl rfl⟩
      simp only [results_eq, Sem.run_bind]
      rw [k1]
      rfl
    | [], k2 => have := k2.len; simp at this
    | _ :: _ :: _, k2 => have := k2.len; simp at this
  · rename_i l hne hl
    cases h
    obtain ⟨vs, k1, k2⟩ := hm _ hl
    refine ⟨.tuple vs.toArray, ?_, .tup k2.len k2.rel⟩
    have h1 : vs.toArray.size ≠ 1 := by
      intro e
      have e2 : l.length = 1 := by rw [k2.len]; simpa using e
      match l, e2 with
      | [u], _ => exact hne u rfl
    simp only [results_eq, Sem.run_bind]
    rw [k1]
    simp only [Result.andThen_ok, dif_neg h1]
    rfl
  · cases h
end Go.Abs

namespace Go.Abs
def unflat (ag : Bool) (s : Nat) : Nat → List FV → List FV
  | 0, _ => []
  | n + 1, l => (bif ag then .agg (l.take s) else l.headD .nili) :: unflat ag s n (l.drop s)
def freezeRow (P : Program) (b off len s : Nat) (S : St) : Option FV :=
  match S.get b with
  | some (.blk cs _ T) =>
    match isAggT P T, szT P T, allPure cs with
    | some ag, some s', some l => if s' = s ∧ off + len * s ≤ cs.length ∧ (ag = false → s = 1) then some (.sl (unflat ag s len (l.drop off))) else none
    | _, _, _ => none
  | _ => none
def freezeV (P : Program) (v : AV) (S : St) : AV × St :=
  match v with
  | .sl b off len s _ =>
    match freezeRow P b off len s S with
    | some x => (.c x, S.put b .dead)
    | none => (v, S)
  | v => (v, S)
def freezeL (P : Program) : List AV → St → List AV × St
  | [], S => ([], S)
  | v :: r, S => ((freezeV P v S).1 :: (freezeL P r (freezeV P v S).2).1, (freezeL P r (freezeV P v S).2).2)
def freezeP (P : Program) (v : AV) (S : St) : AV × St :=
  match v with
  | .agg cs => (mkAgg (freezeL P cs S).1, (freezeL P cs S).2)
  | v => freezeV P v S
def freezePL (P : Program) : List AV → St → List AV × St
  | [], S => ([], S)
  | v :: r, S => ((freezeP P v S).1 :: (freezePL P r (freezeP P v S).2).1, (freezePL P r (freezeP P v S).2).2)
def freezeA (P : Program) (v : AV) (S : St) : AV × St :=
  match v with
  | .tup l => (.tup (freezePL P l S).1, (freezePL P l S).2)
  | v => freezeP P v S
def St.pop (S : St) (B : Nat) : St := { S with next := B, get := fun b => bif Nat.blt b B then S.get b else none }
def AV.under (B : Nat) : Nat → AV → Bool
  | _, .c _ => true
  | _, .fref _ _ => true
  | _, .gref _ => true
  | _, .fz t _ => Nat.blt t B
  | _, .undef => true
  | _, .ref b _ => Nat.blt b B
  | _, .sl b _ _ _ _ => Nat.blt b B
  | _, .map b => Nat.blt b B
  | _, .iter b => Nat.blt b B
  | 0, _ => false
  | n + 1, .iface _ v => v.under B n
  | n + 1, .agg cs => cs.all (AV.under B n)
  | n + 1, .tup cs => cs.all (AV.under B n)
  | n + 1, .clo _ first caps => first.all (AV.under B n) && caps.all (AV.under B n)
inductive Low (B : Nat) : AV → Prop
  | c {v : FV} : Low B (.c v)
  | fref {e : FV} {off : Nat} : Low B (.fref e off)
  | gref {g : Nat} : Low B (.gref g)
  | undef : Low B .undef
  | fz {t : Nat} {xs : List FV} (h : t < B) : Low B (.fz t xs)
  | ref {b off : Nat} (h : b < B) : Low B (.ref b off)
  | sl {b off len s : Nat} {full : Bool} (h : b < B) : Low B (.sl b off len s full)
  | map {b : Nat} (h : b < B) : Low B (.map b)
  | iter {b : Nat} (h : b < B) : Low B (.iter b)
  | iface {t : Nat} {v : AV} (h : Low B v) : Low B (.iface t v)
  | agg {cs : List AV} (h : ∀ x ∈ cs, Low B x) : Low B (.agg cs)
  | tup {cs : List AV} (h : ∀ x ∈ cs, Low B x) : Low B (.tup cs)
  | clo {f : Nat} {first caps : List AV} (h1 : ∀ x ∈ first, Low B x) (h2 : ∀ x ∈ caps, Low B x) : Low B (.clo f first caps)
theorem blt_lt {a b : Nat} (h : Nat.blt a b = true) : a < b := by simpa [Nat.blt_eq] using h
theorem low_of_under {B : Nat} : ∀ {n : Nat} {v : AV}, v.under B n = true → Low B v
  | _, .c _, _ => .c
  | _, .fref _ _, _ => .fref
  | _, .gref _, _ => .gref
  | _, .undef, _ => .undef
  | 0, .fz _ _, h => .fz (blt_lt h)
  | 0, .ref _ _, h => .ref (blt_lt h)
  | 0, .sl _ _ _ _ _, h => .sl (blt_lt h)
  | 0, .map _, h => .map (blt_lt h)
  | 0, .iter _, h => .iter (blt_lt h)
  | n + 1, .fz _ _, h => .fz (blt_lt h)
  | n + 1, .ref _ _, h => .ref (blt_lt h)
  | n + 1, .sl _ _ _ _ _, h => .sl (blt_lt h)
  | n + 1, .map _, h => .map (blt_lt h)
  | n + 1, .iter _, h => .iter (blt_lt h)
  | n + 1, .iface _ v, h => .iface (low_of_under (n := n) h)
  | n + 1, .agg cs, h => .agg fun x hx => low_of_under (n := n) (List.all_eq_true.1 h x hx)
  | n + 1, .tup cs, h => .tup fun x hx => low_of_under (n := n) (List.all_eq_true.1 h x hx)
  | n + 1, .clo f a b, h => by
    simp only [AV.under, Bool.and_eq_true] at h
    exact .clo (fun x hx => low_of_under (n := n) (List.all_eq_true.1 h.1 x hx)) (fun x hx => low_of_under (n := n) (List.all_eq_true.1 h.2 x hx))
def Ob.Low (B : Nat) : Ob → Prop
  | .blk cs _ _ => ∀ x ∈ cs, Abs.Low B x
  | .map es _ _ => ∀ e ∈ es, Abs.Low B e.2
  | .miter m _ _ => m < B
  | _ => True
def PopOk (B : Nat) (S : St) : Prop := (∀ b o, b < B → S.get b = some o → o.Low B) ∧ (∀ t ∈ S.spare, t < B)
def Shut (S : St) : Prop := S.Wf ∧ PopOk S.next S
theorem low_rel {G : Gh} {S : St} {w : World} (h : Inv G S w) {v : AV} {x : Value} (hx : RelA G v x) : Low S.next v := by
  have lt : ∀ {b : Nat} {B : Base}, G.ρ b = some B → b < S.next := fun {b B} hb => by
    rcases Nat.lt_or_ge b S.next with h1 | h1
    · exact h1
    · rw [(h.fresh b h1).1] at hb; cases hb
  have idx : ∀ {l : List AV} {vs : List Value}, l.length = vs.length → (∀ (i : Nat) (a : AV) (b : Value), l[i]? = some a → vs[i]? = some b → Low S.next a) → ∀ y ∈ l, Low S.next y := by
    intro l vs hl hi y hy
    obtain ⟨i, hi'⟩ := List.mem_iff_getElem?.1 hy
    have : i < vs.length := by rw [← hl]; exact (List.getElem?_eq_some_iff.1 hi').1
    exact hi i y vs[i] hi' (by simp [this])
  induction hx with
  | c _ => exact .c
  | ref hb => exact .ref (lt hb)
  | fref _ _ => exact .fref
  | gref _ => exact .gref
  | sl hb _ _ _ _ _ => exact .sl (lt hb)
  | @fz tag _ _ _ _ _ _ ht _ _ _ _ _ _ =>
    refine .fz ?_
    rcases Nat.lt_or_ge tag S.next with h1 | h1
    · exact h1
    · rw [(h.fresh tag h1).2] at ht; cases ht
  | map hb => exact .map (lt hb)
  | iter hb => exact .iter (lt hb)
  | clo hf hc _ _ ih1 ih2 => exact .clo (idx hf ih1) (idx hc ih2)
  | iface _ ih => exact .iface ih
  | agg hl _ ih => exact .agg (idx hl ih)
  | tup hl _ ih => exact .tup (idx hl ih)
  | undef => exact .undef
theorem inv_shut {G : Gh} {S : St} {w : World} (h : Inv G S w) : Shut S := by
  refine ⟨h.wf, fun b o hb ho => ?_, fun t ht => ?_⟩
  · cases o with
    | blk cs ro T =>
      obtain ⟨B, hB, _, _, C, lo, hi, _, _, hc, _⟩ := h.obs b _ ho rfl
      intro x hx
      obtain ⟨i, hi'⟩ := List.mem_iff_getElem?.1 hx
      obtain ⟨v, _, hr, _⟩ := hc i x hi'
      exact low_rel h hr
    | map es bs ck =>
      obtain ⟨B, hB, es', _, hl, hc, _⟩ := h.obs b _ ho rfl
      intro e he
      obtain ⟨i, hi'⟩ := List.mem_iff_getElem?.1 he
      have : i < es'.length := by rw [hl]; exact (List.getElem?_eq_some_iff.1 hi').1
      exact low_rel h (hc i es'[i] e (by simp [this]) hi').2
    | miter m ck seen =>
      obtain ⟨B, hB, ⟨Bm, hm, _⟩, _⟩ := h.obs b _ ho rfl
      show m < S.next
      rcases Nat.lt_or_ge m S.next with h1 | h1
      · exact h1
      · rw [(h.fresh m h1).1] at hm; cases hm
    | _ => trivial
  · obtain ⟨g, st, en, s, k, _⟩ := h.spare t ht
    rcases Nat.lt_or_ge t S.next with h1 | h1
    · exact h1
    · rw [(h.fresh t h1).2] at k; cases k
def Gh.pop (G : Gh) (B : Nat) : Gh := { G with ρ := fun b => if b < B then G.ρ b else none, τ := fun b => if b < B then G.τ b else none }
theorem RelA.pop {G : Gh} {B : Nat} {v : AV} {x : Value} (hv : Low B v) (h : RelA G v x) : RelA (G.pop B) v x := by
  have rr : ∀ {b : Nat} {X : Base}, b < B → G.ρ b = some X → (G.pop B).ρ b = some X := fun hb hx => by simp [Gh.pop, hb, hx]
  induction h with
  | c h => exact .c h
  | ref hb => cases hv; exact .ref (rr ‹_› hb)
  | fref hF hR => exact .fref hF hR
  | gref g => exact .gref g
  | sl hb ha hl hr hf hk => cases hv; exact .sl (rr ‹_› hb) ha hl hr hf hk
  | fz ht hc hs0 hs hF hR ho => cases hv; exact .fz (by simp [Gh.pop, *]) hc hs0 hs hF hR ho
  | map hb => cases hv; exact .map (rr ‹_› hb)
  | iter hb => cases hv; exact .iter (rr ‹_› hb)
  | clo hf hc h1 h2 ih1 ih2 =>
    cases hv with
    | clo k1 k2 => exact .clo hf hc (fun i a b ha hb => ih1 i a b ha hb (k1 a (List.mem_of_getElem? ha))) (fun i a b ha hb => ih2 i a b ha hb (k2 a (List.mem_of_getElem? ha)))
  | iface h ih => cases hv; exact .iface (ih ‹_›)
  | agg hl h ih => cases hv with | agg k => exact .agg hl (fun i a b ha hb => ih i a b ha hb (k a (List.mem_of_getElem? ha)))
  | tup hl h ih => cases hv with | tup k => exact .tup hl (fun i a b ha hb => ih i a b ha hb (k a (List.mem_of_getElem? ha)))
  | undef => exact .undef
theorem pop_get {S : St} {B b : Nat} {o : Ob} (h : (S.pop B).get b = some o) : b < B ∧ S.get b = some o := by
  simp only [St.pop] at h
  cases hlt : Nat.blt b B with
  | true => rw [hlt] at h; exact ⟨blt_lt hlt, h⟩
  | false => rw [hlt] at h; cases h
theorem own_of_pop {G : Gh} {S : St} {B g : Nat} (h : Own (G.pop B) (S.pop B) g) : Own G S g := by
  rcases h with ⟨b, ob, X, h1, h2, h3, h4⟩ | ⟨t, ht, x, hx⟩
  · obtain ⟨hlt, h1⟩ := pop_get h1
    refine .inl ⟨b, ob, X, h1, h2, ?_, h4⟩
    have h3' : (if b < B then G.ρ b else none) = some X := h3
    rwa [if_pos hlt] at h3'
  · refine .inr ⟨t, ht, x, ?_⟩
    have hx' : (if t < B then G.τ t else none) = some (g, x) := hx
    split at hx'
    · exact hx'
    · cases hx'
theorem inv_pop {G G1 : Gh} {S S1 : St} {w w1 : World} (h0 : Inv G S w) (h : Inv G1 S1 w1) (hX : Ext G S w G1 S1 w1) (hp : PopOk S.next S1) :
    Inv (G1.pop S.next) (S1.pop S.next) w1 ∧ Ext G S w (G1.pop S.next) (S1.pop S.next) w1 := by
  have rr : ∀ {b : Nat} {X : Base}, b < S.next → G1.ρ b = some X → (G1.pop S.next).ρ b = some X := fun hb hx => by simp [Gh.pop, hb, hx]
  have rr' : ∀ {b : Nat} {X : Base}, (G1.pop S.next).ρ b = some X → b < S.next ∧ G1.ρ b = some X := by
    intro b X hx
    simp only [Gh.pop] at hx
    split at hx
    · exact ⟨‹_›, hx⟩
    · cases hx
  have tt' : ∀ {b : Nat} {X}, (G1.pop S.next).τ b = some X → b < S.next ∧ G1.τ b = some X := by
    intro b X hx
    simp only [Gh.pop] at hx
    split at hx
    · exact ⟨‹_›, hx⟩
    · cases hx
  have hspare : (S1.pop S.next).spare = S1.spare := rfl
  constructor
  · refine ⟨⟨fun b o hb => (pop_get hb).1, h.cells, ?_, ?_, ?_, ?_, h.nodup, ?_, ?_⟩, fun p hp => ⟨(h.known p hp).1, fun ho => (h.known p hp).2 (own_of_pop ho)⟩⟩
    · intro b ob hb hl
      obtain ⟨hlt, hb⟩ := pop_get hb
      obtain ⟨X, hX1, hr⟩ := h.obs b ob hb hl
      refine ⟨X, rr hlt hX1, ?_⟩
      have hlow := hp.1 b ob hlt hb
      cases ob with
      | blk cs ro T =>
        obtain ⟨k1, k2, C, lo, hi, k3, k4, k5, k6, k7⟩ := hr
        exact ⟨k1, k2, C, lo, hi, k3, k4, fun i a ha => let ⟨v, v1, v2, v3⟩ := k5 i a ha; ⟨v, v1, v2.pop (hlow a (List.mem_of_getElem? ha)), v3⟩, k6, k7⟩
      | map es bs ck =>
        obtain ⟨es', k1, k2, k3, k4⟩ := hr
        exact ⟨es', k1, k2, fun i e p he hpp => ⟨(k3 i e p he hpp).1, (k3 i e p he hpp).2.pop (hlow p (List.mem_of_getElem? hpp))⟩, k4⟩
      | siter s pos => exact hr
      | miter m ck seen =>
        obtain ⟨⟨Bm, k1, k2⟩, k3⟩ := hr
        exact ⟨⟨Bm, rr hlow k1, k2⟩, k3⟩
      | niter => exact hr
      | dead => trivial
    · intro b b' ob ob' X X' h1 h2 l1 l2 r1 r2 e
      exact h.apart b b' ob ob' X X' (pop_get h1).2 (pop_get h2).2 l1 l2 (rr' r1).2 (rr' r2).2 e
    · intro t ht
      obtain ⟨g, st, en, s, k1, k2, k5, k6⟩ := h.spare t ht
      have hlt := hp.2 t ht
      exact ⟨g, st, en, s, by simp [Gh.pop, hlt, k1], k2, k5, fun b ob X hb hl hr => k6 b ob X (pop_get hb).2 hl (rr' hr).2⟩
    · intro t t' g x x' h1 h2 r1 r2
      exact h.tags t t' g x x' h1 h2 (tt' r1).2 (tt' r2).2
    · intro b hb
      have : ¬ b < S.next := Nat.not_lt.2 hb
      simp [Gh.pop, this]
    · intro b X hb
      exact h.born b X (rr' hb).2
  · have low : ∀ {b : Nat} {X : Base}, G.ρ b = some X → b < S.next := fun {b X} hb => by
      rcases Nat.lt_or_ge b S.next with h1 | h1
      · exact h1
      · rw [(h0.fresh b h1).1] at hb; cases hb
    refine ⟨⟨hX.le.F, fun b X hb => rr (low hb) (hX.le.ρ b X hb), fun t x ht => ?_⟩, Nat.le_refl _, hX.size, hX.same, ?_, hX.os, hX.tape, hX.output⟩
    · have : t < S.next := by
        rcases Nat.lt_or_ge t S.next with h1 | h1
        · exact h1
        · rw [(h0.fresh t h1).2] at ht; cases ht
      have := hX.le.τ t x ht
      simp [Gh.pop, *]
    · intro g ho
      apply hX.own
      rcases ho with ⟨b, ob, X, h1, h2, h3, h4⟩ | ⟨t, ht, x, hx⟩
      · exact .inl ⟨b, ob, X, (pop_get h1).2, h2, (rr' h3).2, h4⟩
      · exact .inr ⟨t, ht, x, (tt' hx).2⟩
theorem unflat_spec {s : Nat} (ag : Bool) : ∀ (n : Nat) (l : List FV), n * s ≤ l.length → (ag = false → s = 1 ∧ ∀ x ∈ l, x.cells = [x]) →
    (unflat ag s n l).length = n ∧ (∀ x ∈ unflat ag s n l, x.cells.length = s) ∧ flatF (unflat ag s n l) = l.take (n * s)
  | 0, l, _, _ => by simp [unflat, flatF]
  | n + 1, l, hl, ha => by
    rw [Nat.add_mul] at hl
    obtain ⟨k1, k2, k3⟩ := unflat_spec ag n (l.drop s) (by simp; omega) (fun e => ⟨(ha e).1, fun x hx => (ha e).2 x (List.mem_of_mem_drop hx)⟩)
    have hhead : (bif ag then FV.agg (l.take s) else l.headD .nili).cells = l.take s := by
      cases ag with
      | true => rfl
      | false =>
        obtain ⟨h1, h2⟩ := ha rfl
        subst h1
        match l, hl with
        | x :: r, _ => simpa using h2 x (by simp)
        | [], hl => simp at hl
    refine ⟨by simp [unflat, k1], ?_, ?_⟩
    · intro x hx
      simp only [unflat, List.mem_cons] at hx
      rcases hx with rfl | hx
      · rw [hhead]; simp; omega
      · exact k2 x hx
    · simp only [unflat, flatF, hhead, k3]
      rw [Nat.add_mul, Nat.one_mul, Nat.add_comm (n * s) s, List.take_add]
theorem freezeRow_sound {P : Program} {G : Gh} {S : St} {w : World} (h : Inv G S w) {b off len s : Nat} {full : Bool} {fv : FV} {x : Value} (he : freezeRow P b off len s S = some fv)
    (hx : RelA G (.sl b off len s full) x) : ∃ G', Inv G' (S.put b .dead) w ∧ Ext G S w G' (S.put b .dead) w ∧ RelF G'.F fv x := by
  unfold freezeRow at he
  split at he
  case h_2 => cases he
  rename_i cs ro T hb
  split at he
  case h_2 => cases he
  rename_i ag s' l hag hsz hl
  split at he
  case isFalse => cases he
  rename_i hc
  obtain ⟨rfl, hlen, hs1⟩ := hc
  cases he
  have hcs := allPure_spec hl
  cases hx with
  | @sl _ _ _ _ _ B a cap hB ha hlc hr hf hkn =>
    obtain ⟨B', hB', hknl, hroomB, C, lo, hi, hC, hszC, hcell, hfz, hFz⟩ := h.obs b _ hb rfl
    rw [hB] at hB'
    cases hB'
    obtain ⟨d1, d2, d3⟩ := inv_del h hb rfl hB
    have hcl : cs.length = l.length := by rw [hcs]; simp
    let F' : Nat → Nat → Option Value := fun g o => if g = B.g ∧ B.o ≤ o ∧ o < B.o + cs.length then C[o]? else G.F g o
    have hFF : ∀ g o v, G.F g o = some v → F' g o = some v := by
      intro g o v hv
      simp only [F']
      split
      · rename_i hg
        obtain ⟨rfl, _⟩ := hg
        have := h.cells _ _ _ hv
        rwa [cell_at hC] at this
      · exact hv
    have hle : G.le { G with F := F' } := ⟨hFF, fun _ _ h => h, fun _ _ h => h⟩
    have hnotown : ∀ b' ob' B', (S.put b .dead).get b' = some ob' → ob'.live = true → G.ρ b' = some B' → B'.g ≠ B.g := fun b' ob' B' h1 h2 h3 e =>
      d3 (.inl ⟨b', ob', B', h1, h2, h3, e⟩)
    have hinv : Inv { G with F := F' } (S.put b .dead) w := by
      refine ⟨⟨d1.wf, ?_, ?_, d1.apart, ?_, d1.tags, d1.nodup, d1.fresh, d1.born⟩, d1.known⟩
      · intro g o v hv
        simp only [F'] at hv
        split at hv
        · rename_i hg
          obtain ⟨rfl, _⟩ := hg
          rw [cell_at hC]; exact hv
        · exact h.cells _ _ _ hv
      · intro b' ob' h1 h2
        obtain ⟨B', k1, k2⟩ := d1.obs b' ob' h1 h2
        exact ⟨B', k1, k2.keep hle (fun j v hj => by
          simp only [F'] at hj
          rw [if_neg (fun hg => hnotown b' ob' B' h1 h2 k1 hg.1)] at hj
          exact hj) rfl⟩
      · intro t ht
        obtain ⟨g, st, en, s2, k1, k2, k5, k6⟩ := d1.spare t ht
        refine ⟨g, st, en, s2, k1, k2, fun j v hj => ?_, k6⟩
        simp only [F'] at hj
        rw [if_neg (fun hg => d3 (.inr ⟨t, ht, _, by rw [k1, hg.1]⟩))] at hj
        exact k5 j v hj
    have hext : Ext G S w { G with F := F' } (S.put b .dead) w := ⟨hle, d2.next, d2.size, d2.same, d2.own, d2.os, d2.tape, d2.output⟩
    refine ⟨{ G with F := F' }, hinv, hext, ?_⟩
    have hpure : ∀ i y, l[i]? = some y → ∃ v, C[B.o + i]? = some v ∧ RelF F' y v ∧ oneCell v = true := by
      intro i y hy
      obtain ⟨v, v1, v2, v3⟩ := hcell i (.c y) (by rw [hcs]; simp [hy])
      exact ⟨v, v1, (relA_c v2).mono hFF, v3⟩
    have hsing : ∀ y ∈ l, y.cells = [y] := by
      intro y hy
      obtain ⟨i, hi⟩ := List.mem_iff_getElem?.1 hy
      obtain ⟨v, v1, v2, v3⟩ := hpure i y hi
      cases y <;> first | rfl | (cases v2; simp [oneCell] at v3)
    obtain ⟨u1, u2, u3⟩ := unflat_spec (s := s') ag len (l.drop off) (by simp; omega) (fun e => ⟨hs1 e, fun y hy => hsing y (List.mem_of_mem_drop hy)⟩)
    by_cases hlen0 : len = 0
    · subst hlen0
      simpa [unflat] using RelF.sl0 (F := F') a cap
    · have hcap : cap ≠ 0 := by omega
      rw [ha hcap]
      have hget : ∀ i y, (flatF (unflat ag s' len (l.drop off)))[i]? = some y → l[off + i]? = some y ∧ i < len * s' := by
        intro i y hy
        rw [u3, List.getElem?_take] at hy
        split at hy
        · rename_i hi
          rw [List.getElem?_drop] at hy
          exact ⟨hy, hi⟩
        · cases hy
      have := RelF.sl (F := F') (unflat ag s' len (l.drop off)) B.g (B.o + off) s' cap (fun i => C.getD (B.o + off + i) undef) u2 (by rw [u1]; exact hlc)
        (fun i y hy => by
          obtain ⟨y1, y2⟩ := hget i y hy
          obtain ⟨v, v1, v2, v3⟩ := hpure _ y y1
          simp only [F']
          rw [if_pos ⟨trivial, by omega, by omega⟩, Nat.add_assoc B.o off i, v1, Array.getD_eq_getD_getElem?, v1]; rfl)
        (fun i y hy => by
          obtain ⟨y1, y2⟩ := hget i y hy
          obtain ⟨v, v1, v2, v3⟩ := hpure _ y y1
          rw [Nat.add_assoc B.o off i, Array.getD_eq_getD_getElem?, v1]; exact v2)
        (fun i y hy => by
          obtain ⟨y1, y2⟩ := hget i y hy
          obtain ⟨v, v1, v2, v3⟩ := hpure _ y y1
          rw [Nat.add_assoc B.o off i, Array.getD_eq_getD_getElem?, v1]; exact v3)
      rw [u1] at this
      exact this
theorem freezeV_sound {P : Program} {G : Gh} {S : St} {w : World} (h : Inv G S w) {v : AV} {x : Value} (hx : RelA G v x) :
    ∃ G', Inv G' (freezeV P v S).2 w ∧ Ext G S w G' (freezeV P v S).2 w ∧ RelA G' (freezeV P v S).1 x := by
  unfold freezeV
  split
  · rename_i b off len s full
    split
    · rename_i fv hfv
      obtain ⟨G', k1, k2, k3⟩ := freezeRow_sound h hfv hx
      exact ⟨G', k1, k2, .c k3⟩
    · exact ⟨G, h, .refl G S w, hx⟩
  · exact ⟨G, h, .refl G S w, hx⟩
theorem relL_cons {G : Gh} {v : AV} {x : Value} {l : List AV} {vs : List Value} (h : RelA G v x) (k : RelL G l vs) : RelL G (v :: l) (x :: vs) :=
  ⟨by simp [k.len], fun i a b ha hb => by
    cases i with
    | zero => simp at ha hb; subst ha; subst hb; exact h
    | succ i => simp at ha hb; exact k.rel i a b ha hb⟩
theorem relL_uncons {G : Gh} {v : AV} {l : List AV} {vs : List Value} (h : RelL G (v :: l) vs) : ∃ x r, vs = x :: r ∧ RelA G v x ∧ RelL G l r := by
  match vs, h with
  | x :: r, h => exact ⟨x, r, rfl, h.rel 0 _ _ rfl rfl, by simpa using h.len, fun i a b ha hb => h.rel (i + 1) a b (by simpa using ha) (by simpa using hb)⟩
  | [], h => have := h.len; simp at this
theorem freezeL_sound {P : Program} {w : World} : ∀ {l : List AV} {G : Gh} {S : St} {vs : List Value}, Inv G S w → RelL G l vs →
    ∃ G', Inv G' (freezeL P l S).2 w ∧ Ext G S w G' (freezeL P l S).2 w ∧ RelL G' (freezeL P l S).1 vs
  | [], G, S, vs, h, hr => ⟨G, h, .refl G S w, hr⟩
  | v :: r, G, S, vs, h, hr => by
    obtain ⟨x, xs, rfl, hx, hr'⟩ := relL_uncons hr
    obtain ⟨G1, k1, k2, k3⟩ := freezeV_sound (P := P) h hx
    obtain ⟨G2, m1, m2, m3⟩ := freezeL_sound (P := P) (l := r) k1 (hr'.mono k2.le)
    exact ⟨G2, m1, k2.trans m2, relL_cons (k3.mono m2.le) m3⟩
theorem freezeP_sound {P : Program} {G : Gh} {S : St} {w : World} (h : Inv G S w) {v : AV} {x : Value} (hx : RelA G v x) :
    ∃ G', Inv G' (freezeP P v S).2 w ∧ Ext G S w G' (freezeP P v S).2 w ∧ RelA G' (freezeP P v S).1 x := by
  unfold freezeP
  split
  · cases hx with
    | agg hl hr =>
      obtain ⟨G', k1, k2, k3⟩ := freezeL_sound (P := P) h ⟨hl, hr⟩
      exact ⟨G', k1, k2, mkAgg_rel k3⟩
  · exact freezeV_sound h hx
theorem freezePL_sound {P : Program} {w : World} : ∀ {l : List AV} {G : Gh} {S : St} {vs : List Value}, Inv G S w → RelL G l vs →
    ∃ G', Inv G' (freezePL P l S).2 w ∧ Ext G S w G' (freezePL P l S).2 w ∧ RelL G' (freezePL P l S).1 vs
  | [], G, S, vs, h, hr => ⟨G, h, .refl G S w, hr⟩
  | v :: r, G, S, vs, h, hr => by
    obtain ⟨x, xs, rfl, hx, hr'⟩ := relL_uncons hr
    obtain ⟨G1, k1, k2, k3⟩ := freezeP_sound (P := P) h hx
    obtain ⟨G2, m1, m2, m3⟩ := freezePL_sound (P := P) (l := r) k1 (hr'.mono k2.le)
    exact ⟨G2, m1, k2.trans m2, relL_cons (k3.mono m2.le) m3⟩
theorem freezeA_sound {P : Program} {G : Gh} {S : St} {w : World} (h : Inv G S w) {v : AV} {x : Value} (hx : RelA G v x) :
    ∃ G', Inv G' (freezeA P v S).2 w ∧ Ext G S w G' (freezeA P v S).2 w ∧ RelA G' (freezeA P v S).1 x := by
  unfold freezeA
  split
  · cases hx with
    | tup hl hr =>
      obtain ⟨G', k1, k2, k3⟩ := freezePL_sound (P := P) h ⟨hl, hr⟩
      exact ⟨G', k1, k2, .tup k3.len k3.rel⟩
  · exact freezeP_sound h hx
def Left (B : Nat) (R : CX → St → Prop) (v : AV) (S : St) : Prop :=
  R (.ret v) S ∨ (v.under B 4 = true ∧ PopOk B S ∧ R (.ret v) (S.pop B))
def ends (P : Program) (B : Nat) (R : CX → St → Prop) (v : AV) (S : St) : Prop :=
  Left B R v S ∨ Left B R (freezeA P v S).1 (freezeA P v S).2
def bodyQ (P : Program) (fn : Func) (B : Nat) (R : CX → St → Prop) : AQ
  | .normal, env, S =>
    match resultA P fn env S with
    | some v => ends P B R v S
    | none => False
  | .ret, env, S =>
    match resultA P fn env S with
    | some v => ends P B R v S
    | none => False
  | .panic v, _, S => R (.panic v) S
  | .exit _, _, _ => False
theorem left_sound {G G1 : Gh} {S S1 : St} {w w1 : World} {R : CX → St → Prop} {v : AV} {x : Value} (h0 : Inv G S w) (h : Inv G1 S1 w1) (hX : Ext G S w G1 S1 w1) (hx : RelA G1 v x)
    (hL : Left S.next R v S1) : CPost G S w R (.returned x) w1 := by
  rcases hL with hL | ⟨h1, h2, h3⟩
  · exact ⟨.ret v, S1, G1, hL, hx, h, hX⟩
  · obtain ⟨k1, k2⟩ := inv_pop h0 h hX h2
    exact ⟨.ret v, _, _, h3, hx.pop (low_of_under h1), k1, k2⟩
theorem ends_sound {P : Program} {G G1 : Gh} {S S1 : St} {w w1 : World} {R : CX → St → Prop} {v : AV} {x : Value} (h0 : Inv G S w) (h : Inv G1 S1 w1) (hX : Ext G S w G1 S1 w1) (hx : RelA G1 v x)
    (hL : ends P S.next R v S1) : CPost G S w R (.returned x) w1 := by
  rcases hL with hL | hL
  · exact left_sound h0 h hX hx hL
  · obtain ⟨G2, k1, k2, k3⟩ := freezeA_sound (P := P) h hx
    exact left_sound h0 k1 (hX.trans k2) k3 hL
theorem wc_of_body' {P : Program} {f : FuncId} {fn : Func} {c : Code} (hf : P.funcs[f]? = some fn) (hn : (fn.name == "runtime.NumGoroutine") = false) (hb : fn.body = some c)
    {args : List AV} {R : CX → St → Prop} {S : St} (hlen : args.length ≤ fn.ntmps) (h : Shut S → W P fn.ntmps c (bodyQ P fn S.next R) (envOf args 0) S) : WC P f args R S := by
  intro G vals w hr hI
  have hrun : Sem.run P (callFunc f vals.toArray) w = .ok (.enter f vals.toArray) w := by
    have hn' : ¬ fn.name = "runtime.NumGoroutine" := by simpa using hn
    simp [callFunc, program, hf, hn', hb, Sem.run]
  unfold Upon
  rw [hrun]
  simp only
  refine calls_of_wp hf hb ?_
  have hvl : vals.length = args.length := hr.len.symm
  have hE : EnvRel fn.ntmps G (envOf args 0) (vals.toArray ++ Array.replicate (fn.ntmps - vals.toArray.size) undef) := by
    refine ⟨by simp; omega, fun t => ?_⟩
    show RelA G (envOf args 0 t) _
    rw [envOf_get]
    by_cases ht : 0 ≤ t ∧ t < 0 + args.length
    · rw [if_pos ht]
      have ht1 : t < args.length := by omega
      have ht2 : t < vals.length := by omega
      have e1 : args.getD (t - 0) .undef = args[t] := by simp [ht1]
      have e2 : (vals.toArray ++ Array.replicate (fn.ntmps - vals.toArray.size) undef).getD t undef = vals[t] := by
        rw [Array.getD_eq_getD_getElem?, Array.getElem?_append]
        simp [ht2]
      rw [e1, e2]
      exact hr.rel t args[t] vals[t] (by simp) (by simp)
    · rw [if_neg ht]; exact .undef
  refine wp_mono (h (inv_shut hI) G { tmps := vals.toArray ++ Array.replicate (fn.ntmps - vals.toArray.size) undef, defers := [] } w hE hI) ?_
  rintro e a w' ⟨x, env', S', G', k1, k2, k3, k4, k5, k6⟩
  have fin : ∀ {v : AV}, resultA P fn env' S' = some v → ends P S.next R v S' →
      a.defers = [] ∧ ∃ y, (results fn a.tmps).run P w' = .ok y w' ∧ CPost G S w R (.returned y) w' := by
    intro v hv hR
    obtain ⟨y, y1, y2⟩ := resultA_sound (P := P) k3 k4 hv
    exact ⟨k6, y, y1, ends_sound hI k4 k5 y2 hR⟩
  cases x with
  | normal =>
    cases e with
    | normal =>
      simp only [bodyQ] at k1
      split at k1
      · rename_i v hv; exact fin hv k1
      · exact k1.elim
    | _ => exact k2.elim
  | ret =>
    cases e with
    | ret =>
      simp only [bodyQ] at k1
      split at k1
      · rename_i v hv; exact fin hv k1
      · exact k1.elim
    | _ => exact k2.elim
  | exit i => exact k1.elim
  | panic v =>
    cases e with
    | panic ch =>
      obtain ⟨y, rfl, hy⟩ := k2
      exact ⟨k6, .panic v, _, G', k1, ⟨y, rfl, hy⟩, k4, k5⟩
    | _ => exact k2.elim
theorem St.ext {S S' : St} (h1 : S.next = S'.next) (h2 : ∀ b, S.get b = S'.get b) (h3 : S.spare = S'.spare) (h4 : S.known = S'.known) : S = S' := by
  cases S; cases S'
  simp only [St.mk.injEq]
  exact ⟨h1, funext h2, h3, h4⟩
theorem pop_new {S : St} {B : Nat} {o : Ob} (h : B ≤ S.next) : (S.new o).pop B = S.pop B := by
  refine St.ext rfl (fun b => ?_) rfl rfl
  simp only [St.pop, St.new]
  cases hb : Nat.blt b B with
  | false => rfl
  | true => rw [beq_ne (a := S.next) (b := b) (by have := blt_lt hb; omega)]; rfl
theorem pop_put {S : St} {B b : Nat} {o : Ob} (h : B ≤ b) : (S.put b o).pop B = S.pop B := by
  refine St.ext rfl (fun b' => ?_) rfl rfl
  simp only [St.pop, St.put]
  cases hb : Nat.blt b' B with
  | false => rfl
  | true => rw [beq_ne (a := b) (b := b') (by have := blt_lt hb; omega)]; rfl
theorem pop_self {S : St} (h : S.Wf) : S.pop S.next = S := by
  refine St.ext rfl (fun b => ?_) rfl rfl
  simp only [St.pop]
  cases hb : Nat.blt b S.next with
  | true => rfl
  | false =>
    cases hg : S.get b with
    | none => rfl
    | some o => have := h b o hg; rw [show Nat.blt b S.next = true from by simpa [Nat.blt_eq] using this] at hb; cases hb
theorem popOk_new {S : St} {B : Nat} {o : Ob} (h : B ≤ S.next) (hp : PopOk B S) : PopOk B (S.new o) := by
  refine ⟨fun b ob hb hg => ?_, hp.2⟩
  rw [St.get_new, if_neg (by omega)] at hg
  exact hp.1 b ob hb hg
theorem popOk_put {S : St} {B b : Nat} {o : Ob} (h : B ≤ b ∨ o.Low B) (hp : PopOk B S) : PopOk B (S.put b o) := by
  refine ⟨fun b' ob hb hg => ?_, hp.2⟩
  rw [St.get_put] at hg
  split at hg
  · subst_vars
    cases hg
    rcases h with h | h
    · omega
    · exact h
  · exact hp.1 b' ob hb hg
theorem next_new (S : St) (o : Ob) : (S.new o).next = S.next + 1 := rfl
theorem next_put (S : St) (b : Nat) (o : Ob) : (S.put b o).next = S.next := rfl
theorem wf_new {S : St} {o : Ob} (h : S.Wf) : (S.new o).Wf := fun b ob hb => by
  rw [St.get_new] at hb
  rw [next_new]
  split at hb
  · omega
  · have := h b ob hb; omega
theorem wf_put {S : St} {b : Nat} {o : Ob} (h : S.Wf) (hb : b < S.next) : (S.put b o).Wf := fun b' ob hg => by
  rw [St.get_put] at hg
  rw [next_put]
  split at hg
  · omega
  · exact h b' ob hg
end Go.Abs

namespace Go.Abs
def AgreeO (env env' : Env) (x : Operand) : Prop := ∀ t, x = .tmp t → env.get t = env'.get t
theorem opnd_congr {env env' : Env} {x : Operand} (h : AgreeO env env' x) : opnd env x = opnd env' x := by
  cases x with
  | tmp t => simp [opnd, h t rfl]
  | _ => rfl
theorem opnds_congr {env env' : Env} : ∀ {l : List Operand}, (∀ x ∈ l, AgreeO env env' x) → opnds env l = opnds env' l
  | [], _ => rfl
  | x :: r, h => by simp only [opnds, opnd_congr (h x (by simp)), opnds_congr (l := r) fun y hy => h y (by simp [hy])]
theorem partsA_congr {env env' : Env} : ∀ {l : List (Nat × Operand)}, (∀ x ∈ l, AgreeO env env' x.2) → partsA env l = partsA env' l
  | [], _ => rfl
  | (i, x) :: r, h => by simp only [partsA, opnd_congr (h (i, x) (by simp)), partsA_congr (l := r) fun y hy => h y (by simp [hy])]
theorem optA_congr {env env' : Env} {x : Option Operand} (h : ∀ y, x = some y → AgreeO env env' y) : optA env x = optA env' x := by
  cases x with
  | none => rfl
  | some y => simp only [optA, opnd_congr (h y rfl)]
theorem evalOp_congr {P : Program} {o : Oper} {env env' : Env} {S : St} (h : ∀ x ∈ o.op.operands, AgreeO env env' x) : evalOp P o env S = evalOp P o env' S := by
  obtain ⟨dst, op, type, pos, after, guard⟩ := o
  cases op <;> simp only [Op.operands] at h <;> simp only [evalOp, evMove, evPick, evAlloc, evBox, evBuild, evBuildSlice, evLoad, evStore, evNilCheck, evBinOp, evUnOp, evConvert, evMakeInterface, evMakeFunc, evMakeMap, evMakeSlice, evSlice, evFieldAddr, evField, evIndexAddr, evIndex, evLookup, evMapUpdate, evRange, evNextStr, evNextMap, evEntry, evTypeAssert, evExtract, evPanic, evBuiltin, evCall, evInvoke]
  case move x => rw [opnd_congr (h x (by simp))]
  case assign x => rw [opnd_congr (h x (by simp))]
  case box t x => rw [opnd_congr (h x (by simp))]
  case load t x => rw [opnd_congr (h x (by simp))]
  case nilCheck x => rw [opnd_congr (h x (by simp))]
  case unOp t y x => rw [opnd_congr (h x (by simp))]
  case convert t y x => rw [opnd_congr (h x (by simp))]
  case makeInterface t x => rw [opnd_congr (h x (by simp))]
  case fieldAddr t x f => rw [opnd_congr (h x (by simp))]
  case field t x f => rw [opnd_congr (h x (by simp))]
  case range t x => rw [opnd_congr (h x (by simp))]
  case next x b => cases b <;> simp only [] <;> rw [opnd_congr (h x (by simp))]
  case entry x => rw [opnd_congr (h x (by simp))]
  case typeAssert x _ _ _ => rw [opnd_congr (h x (by simp))]
  case extract x _ => rw [opnd_congr (h x (by simp))]
  case panic x => rw [opnd_congr (h x (by simp))]
  case pick c a b =>
    rw [opnd_congr (h c (by simp))]
    have : ∀ t : Bool, opnd env (bif t then a else b) = opnd env' (bif t then a else b) := fun t => by
      cases t
      · exact opnd_congr (h b (by simp))
      · exact opnd_congr (h a (by simp))
    simp only [this]
  case build t ps =>
    rw [partsA_congr (env' := env') fun x hx => h x.2 (by simp; exact ⟨x.1, by simpa using hx⟩)]
  case buildSlice t n ps =>
    rw [partsA_congr (env' := env') fun x hx => h x.2 (by simp; exact ⟨x.1, by simpa using hx⟩)]
  case store t x y => rw [opnd_congr (h x (by simp)), opnd_congr (h y (by simp))]
  case binOp op t x y _ => rw [opnd_congr (h x (by simp)), opnd_congr (h y (by simp))]
  case makeSlice t x y => rw [opnd_congr (h x (by simp)), opnd_congr (h y (by simp))]
  case indexAddr t x y => rw [opnd_congr (h x (by simp)), opnd_congr (h y (by simp))]
  case index t x y => rw [opnd_congr (h x (by simp)), opnd_congr (h y (by simp))]
  case lookup t x y _ => rw [opnd_congr (h x (by simp)), opnd_congr (h y (by simp))]
  case mapUpdate t x y z => rw [opnd_congr (h x (by simp)), opnd_congr (h y (by simp)), opnd_congr (h z (by simp))]
  case insert t x y z => rw [opnd_congr (h x (by simp)), opnd_congr (h y (by simp)), opnd_congr (h z (by simp))]
  case makeFunc f a b =>
    cases f with
    | func f =>
      simp only []
      rw [opnds_congr (env' := env') (l := a.toList) fun x hx => h x (by simp at hx; simp [hx]), opnds_congr (env' := env') (l := b.toList) fun x hx => h x (by simp at hx; simp [hx])]
    | _ => rfl
  case makeMap t r => cases r <;> rfl
  case slice t x lo hi mx =>
    rw [opnd_congr (h x (by simp)), optA_congr (env' := env') (x := lo) (fun y hy => h y (by simp [hy])), optA_congr (env' := env') (x := hi) (fun y hy => h y (by simp [hy])),
      optA_congr (env' := env') (x := mx) (fun y hy => h y (by simp [hy]))]
  case call c =>
    obtain ⟨callee, args, ats⟩ := c
    cases callee with
    | builtin b => simp only []; rw [opnds_congr (env' := env') fun x hx => h x (by simp at hx; simp [Call.operands, hx])]
    | value f =>
      simp only []
      rw [opnd_congr (h f (by simp [Call.operands])), opnds_congr (env' := env') fun x hx => h x (by simp at hx; simp [Call.operands, hx])]
    | invoke r m =>
      simp only []
      rw [opnd_congr (h r (by simp [Call.operands])), opnds_congr (env' := env') fun x hx => h x (by simp at hx; simp [Call.operands, hx])]
def pureOp : Op → Bool
  | .move _ | .assign _ | .pick _ _ _ | .nilCheck _ | .binOp _ _ _ _ _ | .unOp _ _ _ | .fieldAddr _ _ _ | .field _ _ _ | .indexAddr _ _ _ | .index _ _ _ | .makeInterface _ _
  | .extract _ _ | .typeAssert _ _ _ _ | .build _ _ => true
  | _ => false
theorem evalOp_pure {P : Program} {o : Oper} {env : Env} {S S' : St} (h : pureOp o.op = true) : evalOp P o env S = evalOp P o env S' := by
  obtain ⟨dst, op, type, pos, after, guard⟩ := o
  cases op <;> first | rfl | (simp [pureOp] at h; done)
theorem wantedA_congr {ops : List Oper} {env env' : Env} {o : Oper} (h : ∀ t ∈ o.looksAt ops.toArray, env.get t = env'.get t) : wantedA ops env o = wantedA ops env' o := by
  unfold wantedA
  split
  · rfl
  · rename_i j want hg
    split
    · rename_i g hj
      split
      · rename_i t ht
        rw [h t (by simp [Oper.looksAt, hg, hj, ht])]
      · rfl
    · rfl
theorem evalOp_looks {P : Program} {ops : Array Oper} {o : Oper} {env env' : Env} {S : St} (h : ∀ t ∈ o.looksAt ops, env.get t = env'.get t) : evalOp P o env S = evalOp P o env' S :=
  evalOp_congr fun x hx t ht => h t (by
    subst ht
    exact List.mem_append_left _ (List.mem_filterMap.2 ⟨.tmp t, by simpa using hx, rfl⟩))
theorem pureOp_val {P : Program} {o : Oper} {env : Env} {S : St} {r : Res} (h : pureOp o.op = true) (he : evalOp P o env S = some r) : ∀ f args, r ≠ .call f args := by
  rintro f args rfl
  obtain ⟨dst, op, type, pos, after, guard⟩ := o
  cases op <;> first
    | exact absurd (show (false : Bool) = true from h) (by decide)
    | (simp only [evalOp, evMove, evPick, evNilCheck, evBinOp, evUnOp, evFieldAddr, evField, evIndexAddr, evIndex, evMakeInterface, evExtract, evTypeAssert, evBuild] at he
       repeat' split at he
       all_goals simp at he)
inductive Plan where
  | done
  | op (i : Nat) (next : Plan)
  | step (i : Nat) (chk : List Nat) (next alt : Plan)
def Plan.isDone : Plan → Bool
  | .done => true
  | _ => false
def Plan.isStep : Plan → Bool
  | .step _ _ _ _ => true
  | _ => false
def preds (o : Oper) : List Nat := (o.after.toList.filter (Region.binds .any)).map (·.on)
def predsIn (L : List Nat) (o : Oper) : Bool := (preds o).all fun i => L.contains i
def contK (KA Pan : AV → St → Prop) (x : CX) (S : St) : Prop :=
  match x with
  | .ret v => KA v S
  | .panic v => Pan v S
def stepRes (P : Program) (KA Pan : AV → St → Prop) (S : St) : Option Res → Prop
  | none => False
  | some (.val v cm) => KA v (S.run cm)
  | some (.skip cm) => KA (.tup []) (S.run cm)
  | some (.call f args) => WC P f args (contK KA Pan) S
  | some (.pan v) => Pan v S
  | some (.any l) => ∀ p ∈ l, KA p.1 (S.run p.2)
def stepA (P : Program) (o : Oper) (KA Pan : AV → St → Prop) (env : Env) (S : St) : Option Bool → Prop
  | none => False
  | some false => KA (.tup []) S
  | some true => stepRes P KA Pan S (evalOp P o env S)
abbrev StepA (P : Program) (ops : List Oper) (o : Oper) (KA : AV → St → Prop) (Pan : AV → St → Prop) (env : Env) (S : St) : Prop := stepA P o KA Pan env S (wantedA ops env o)
def Yields (P : Program) (v : AV) (S : St) : Option Res → Prop
  | some (.val u []) => u = v
  | some (.call f args) => WC P f args (Is v S) S
  | _ => False
def FVal (P : Program) (ops : List Oper) (o : Oper) (env : Env) (S : St) (v : AV) : Prop :=
  (wantedA ops env o = some false ∧ v = .tup []) ∨ (wantedA ops env o = some true ∧ Yields P v S (evalOp P o env S))
def stabOne (P : Program) (ops : List Oper) (env : Env) (S : St) (i : Nat) : Prop :=
  match ops[i]? with
  | none => False
  | some o =>
    match o.dst with
    | none => False
    | some d => wantedA ops env o = some false ∨ Yields P (env.get d) S (evalOp P o env S)
def stab (P : Program) (ops : List Oper) (env : Env) (S : St) : List Nat → Prop
  | [] => True
  | i :: r => stabOne P ops env S i ∧ stab P ops env S r
def stepK (P : Program) (ops : List Oper) (chk : List Nat) (K : Env → St → Prop) (env : Env) (d : Option Tmp) (v : AV) (S : St) : Prop :=
  stab P ops (env.setO d v) S chk ∧ K (env.setO d v) S
def panK (Q : AQ) (v : AV) (S : St) : Prop := ∀ env, Q (.panic v) env S
def opRes (P : Program) (K : Env → St → Prop) (env : Env) (S : St) (d : Option Tmp) : Option Res → Prop
  | some (.val v []) => K (env.setO d v) S
  | some (.call f args) => ∃ v, WC P f args (Is v S) S ∧ K (env.setO d v) S
  | _ => False
def opA (P : Program) (K : Env → St → Prop) (o : Oper) (env : Env) (S : St) : Option Bool → Prop
  | none => False
  | some false => K (env.setO o.dst (.tup [])) S
  | some true => opRes P K env S o.dst (evalOp P o env S)
def WPlan (P : Program) (N : Nat) (ops : List Oper) (Q : AQ) : Plan → Env → St → Prop
  | .done, env, S => Q .normal env S
  | .op i next, env, S =>
    match ops[i]? with
    | none => False
    | some o => dstOk N o.dst ∧ opA P (WPlan P N ops Q next) o env S (wantedA ops env o)
  | .step i chk next alt, env, S =>
    (alt.isDone = true ∨ WPlan P N ops Q alt env S) ∧
    match ops[i]? with
    | none => False
    | some o => dstOk N o.dst ∧
      StepA P ops o (stepK P ops chk (WPlan P N ops Q next) env o.dst) (panK Q) env S
def pairOk (ops : Array Oper) (ch : List Nat) (i j : Nat) : Bool :=
  match ops[i]?, ops[j]? with
  | some x, some y =>
    match x.dst with
    | none => true
    | some d => bif Nat.beq i j then (ch.contains i || !(y.looksAt ops).contains d) else
        (y.dst != some d) && ((preds y).contains i || !(y.looksAt ops).contains d || ((preds x).contains j && ch.contains i))
  | _, _ => false
def pairsOk (ops : Array Oper) (ch : List Nat) : Bool :=
  (List.range ops.size).all fun i => (List.range ops.size).all fun j => pairOk ops ch i j
def opAt (ops : Array Oper) (i : Nat) (p : Oper → Bool) : Bool :=
  match ops[i]? with
  | some o => p o
  | none => false
def okPlan (ops : Array Oper) (ch : List Nat) : List Nat → List Nat → Plan → Bool
  | L, _, .done => (List.range ops.size).all fun j => L.contains j
  | L, _, .op i next => !L.contains i && opAt ops i (fun o => predsIn L o && o.dst.isSome) && !ch.contains i && okPlan ops ch (i :: L) [] next
  | L, fs, .step i chk next alt => !L.contains i && opAt ops i (fun o => predsIn L o &&
        L.all fun f => ch.contains f || opAt ops f (fun p => pureOp p.op) || (preds o).contains f || chk.contains f) && ch.contains i && okPlan ops ch (i :: L) [] next &&
      (bif alt.isDone then (List.range ops.size).all fun j => L.contains j || (i :: fs).contains j || !(opAt ops j (predsIn L)) else alt.isStep && okPlan ops ch L (i :: fs) alt)
theorem stepA_sound {P : Program} {N : Nat} {ops : List Oper} {Q : AQ} {G0 : Gh} {S0 : St} {w0 : World} {i : Nat} {o : Oper} {KA : AV → St → Prop} {Pan : AV → St → Prop} {env : Env} {S : St} {G : Gh} {a : Act} {w : World}
    {ds : List Deferred} {K : Act → World → Prop} (hds : a.defers = ds) (ho : ops[i]? = some o) (h : StepA P ops o KA Pan env S) (hE : EnvRel N G env a.tmps) (hI : Inv G S w) (hX : Ext G0 S0 w0 G S w) (hP : ∀ v S', Pan v S' → Q (.panic v) env S')
    (hK : ∀ v x S' G' w', KA v S' → RelA G' v x → Inv G' S' w' → Ext G0 S0 w0 G' S' w' → G.le G' → K (a.put o.dst x) w') :
    wpOp P ops.toArray (Post N G0 S0 w0 ds Q) i K a w := by
  have hoa : ops.toArray[i]? = some o := by simpa using ho
  subst hds
  unfold wpOp
  simp only [hoa]
  cases hw : wantedA ops env o with
  | none => rw [StepA, hw] at h; exact h.elim
  | some b =>
  rw [StepA, hw] at h
  rw [wantedA_sound hE hw]
  cases b with
  | false =>
    simp only [Bool.false_eq_true, if_false]
    exact hK _ _ _ G w h (undef_rel G) hI hX (.refl G)
  | true =>
    replace h : stepRes P KA Pan S (evalOp P o env S) := h
    simp only [if_true]
    left
    cases he : evalOp P o env S with
    | none => rw [he] at h; exact h.elim
    | some r =>
    rw [he] at h
    cases r with
    | val v cm =>
      obtain ⟨x, G', w', k1, k2, k3, k4⟩ := evalOp_sound (P := P) hI hE he
      simp only [Oper.wp, k1, Oper.upon]
      exact hK _ _ _ G' w' h k2 k3 (hX.trans k4) k4.le
    | skip cm =>
      obtain ⟨G', w', k1, k3, k4⟩ := evalOp_sound (P := P) hI hE he
      simp only [Oper.wp, k1, Oper.upon]
      exact hK _ _ _ G' w' h (undef_rel G') k3 (hX.trans k4) k4.le
    | call f args =>
      obtain ⟨vals, k1, k2⟩ := evalOp_sound (P := P) hI hE he
      have hc : Upon P f vals.toArray w (CPost G S w (contK KA Pan)) := h G vals w k2 hI
      simp only [Oper.wp, k1]
      have key : ∀ e w', CPost G S w (contK KA Pan) e w' →
          match e, w' with
          | .returned v, w'' => K (a.put o.dst v) w''
          | .panicked chain, w'' => Post N G0 S0 w0 a.defers Q (.panic chain) a w''
          | .outgrown, _ => LetsOut (Post N G0 S0 w0 a.defers Q) := by
        rintro e w' ⟨x, S', G', r1, r2, r3, r4⟩
        cases x with
        | ret v =>
          cases e with
          | returned y => exact hK _ _ _ G' w' r1 r2 r3 (hX.trans r4) r4.le
          | panicked ch => exact r2.elim
          | outgrown => exact r2.elim
        | panic v =>
          cases e with
          | returned y => exact r2.elim
          | panicked ch => exact ⟨.panic v, env, S', G', hP _ _ r1, r2, hE.mono r4.le, r3, hX.trans r4, rfl⟩
          | outgrown => exact r2.elim
      unfold Upon at hc
      split at hc
      · rename_i f' args' w' hrun
        rw [hrun]
        simp only [Oper.upon]
        exact Calls.mono hc key
      · rename_i v w' hrun
        rw [hrun]
        simp only [Oper.upon]
        exact key _ _ hc
      · exact hc.elim
    | pan v =>
      obtain ⟨x, k1, k2⟩ := evalOp_sound (P := P) hI hE he
      simp only [Oper.wp, k1, Oper.upon]
      exact ⟨.panic v, env, S, G, hP _ _ h, ⟨x, rfl, k2⟩, hE, hI, hX, rfl⟩
    | any l' =>
      obtain ⟨p, hp, x, G', w', k1, k2, k3, k4⟩ := evalOp_sound (P := P) hI hE he
      simp only [Oper.wp, k1, Oper.upon]
      exact hK _ _ _ G' w' (h p hp) k2 k3 (hX.trans k4) k4.le
theorem StepA.mono {P : Program} {ops : List Oper} {o : Oper} {KA KA' : AV → St → Prop} {Pan Pan' : AV → St → Prop} {env env' : Env} {S : St} (h : StepA P ops o KA Pan env S)
    (hl : ∀ t ∈ o.looksAt ops.toArray, env.get t = env'.get t) (hk : ∀ v S, KA v S → KA' v S) (hp : ∀ v S, Pan v S → Pan' v S) : StepA P ops o KA' Pan' env' S := by
  unfold StepA at *
  rw [← wantedA_congr hl]
  cases hw : wantedA ops env o with
  | none => rw [hw] at h; exact h.elim
  | some b =>
    rw [hw] at h
    cases b with
    | false => exact hk _ _ h
    | true =>
      simp only [stepA] at *
      rw [← evalOp_looks hl]
      cases he : evalOp P o env S with
      | none => rw [he] at h; exact h.elim
      | some r =>
        rw [he] at h
        cases r with
        | val v cm => exact hk _ _ h
        | skip cm => exact hk _ _ h
        | call f args =>
          refine WC.mono h fun x S' => ?_
          cases x with
          | ret v => exact hk _ _
          | panic v => exact hp _ _
        | pan v => exact hp _ _ h
        | any l => exact fun p hp => hk _ _ (h p hp)
theorem fval_step {P : Program} {ops : List Oper} {o : Oper} {env : Env} {S : St} {v : AV} {KA : AV → St → Prop} {Pan : AV → St → Prop} (h : FVal P ops o env S v) (hk : KA v S) : StepA P ops o KA Pan env S := by
  unfold StepA
  rcases h with ⟨h1, rfl⟩ | ⟨h1, h2⟩
  · rw [h1]; exact hk
  · rw [h1]
    show stepRes P KA Pan S (evalOp P o env S)
    unfold Yields at h2
    split at h2
    · rename_i u he
      subst h2
      rw [he]; exact hk
    · rename_i f args he
      rw [he]
      refine WC.mono h2 fun x T => ?_
      rintro ⟨rfl, rfl⟩
      exact hk
    · exact h2.elim
theorem yields_pure {P : Program} {o : Oper} {env : Env} {S S' : St} {v : AV} (h : pureOp o.op = true) (k : Yields P v S (evalOp P o env S)) : Yields P v S' (evalOp P o env S') := by
  rw [evalOp_pure (S := S') (S' := S) h]
  cases he : evalOp P o env S with
  | none => rw [he] at k; exact k.elim
  | some r =>
    rw [he] at k
    cases r with
    | call f args => exact absurd rfl (pureOp_val h he f args)
    | val u cm =>
      cases cm with
      | nil => exact k
      | cons c r => exact k.elim
    | _ => exact k.elim
theorem FVal.congr {P : Program} {ops : List Oper} {o : Oper} {env env' : Env} {S : St} {v : AV} (h : FVal P ops o env S v) (hl : ∀ t ∈ o.looksAt ops.toArray, env.get t = env'.get t) : FVal P ops o env' S v := by
  unfold FVal at *
  rwa [← wantedA_congr hl, ← evalOp_looks hl]
theorem opAt_spec {ops : Array Oper} {i : Nat} {p : Oper → Bool} (h : opAt ops i p = true) : ∃ o, ops[i]? = some o ∧ p o = true := by
  unfold opAt at h
  split at h
  · exact ⟨_, ‹_›, h⟩
  · cases h
theorem predsIn_spec {L : List Nat} {o : Oper} : predsIn L o = true ↔ ∀ i ∈ preds o, i ∈ L := by
  simp [predsIn]
theorem mem_preds {o : Oper} {i : Nat} : i ∈ preds o ↔ ∃ e ∈ o.after, Region.binds .any e = true ∧ e.on = i := by
  simp [preds, and_assoc]
structure Pairs (ops : List Oper) (ch : List Nat) : Prop where
  self : ∀ (i : Nat) (o : Oper) (d : Tmp), ops[i]? = some o → o.dst = some d → i ∉ ch → d ∉ o.looksAt ops.toArray
  dst : ∀ (i j : Nat) (x y : Oper) (d : Tmp), i ≠ j → ops[i]? = some x → ops[j]? = some y → x.dst = some d → y.dst ≠ some d
  looks : ∀ (i j : Nat) (x y : Oper) (d : Tmp), i ≠ j → ops[i]? = some x → ops[j]? = some y → x.dst = some d → i ∈ preds y ∨ d ∉ y.looksAt ops.toArray ∨ (j ∈ preds x ∧ i ∈ ch)
theorem pairsOk_spec {ops : List Oper} {ch : List Nat} (h : pairsOk ops.toArray ch = true) : Pairs ops ch := by
  have h' : ∀ i j, i < ops.length → j < ops.length → pairOk ops.toArray ch i j = true := by
    intro i j hi hj
    simp only [pairsOk, List.all_eq_true, List.mem_range, List.size_toArray] at h
    exact h i hi j hj
  have lt : ∀ {i : Nat} {o : Oper}, ops[i]? = some o → i < ops.length := fun h => (List.getElem?_eq_some_iff.1 h).1
  refine ⟨fun i o d ho hd hc => ?_, fun i j x y d hne hx hy hd => ?_, fun i j x y d hne hx hy hd => ?_⟩
  · have := h' i i (lt ho) (lt ho)
    simpa [pairOk, ho, hd, hc] using this
  · have := h' i j (lt hx) (lt hy)
    simp [pairOk, hx, hy, hd, beq_ne hne] at this
    exact this.1
  · have := h' i j (lt hx) (lt hy)
    simp [pairOk, hx, hy, hd, beq_ne hne] at this
    rcases this.2 with (h1 | h1) | h1
    · exact .inl h1
    · exact .inr (.inl h1)
    · exact .inr (.inr h1)
inductive Topo (ops : List Oper) : List Nat → Prop
  | nil : Topo ops []
  | cons {i : Nat} {L : List Nat} {o : Oper} (ho : ops[i]? = some o) (hp : ∀ j ∈ preds o, j ∈ L) (hi : i ∉ L) (h : Topo ops L) : Topo ops (i :: L)
theorem Topo.mem {ops : List Oper} {L : List Nat} (h : Topo ops L) {i : Nat} (hi : i ∈ L) : ∃ o, ops[i]? = some o ∧ ∀ j ∈ preds o, j ∈ L := by
  induction h with
  | nil => simp at hi
  | cons ho hp _ _ ih =>
    rcases List.mem_cons.1 hi with rfl | hi
    · exact ⟨_, ho, fun j hj => List.mem_cons_of_mem _ (hp j hj)⟩
    · obtain ⟨o, h1, h2⟩ := ih hi
      exact ⟨o, h1, fun j hj => List.mem_cons_of_mem _ (h2 j hj)⟩
theorem Topo.first {ops : List Oper} {L : List Nat} (h : Topo ops L) : ∀ (p : Nat → Prop), (∃ i ∈ L, p i) → ∃ i ∈ L, p i ∧ ∃ o, ops[i]? = some o ∧ ∀ j ∈ preds o, j ∈ L ∧ ¬ p j := by
  induction h with
  | nil => rintro p ⟨i, hi, _⟩; simp at hi
  | @cons i L o ho hp hn hL ih =>
    intro p hex
    by_cases h : ∃ k ∈ L, p k
    · obtain ⟨k, hk, pk, o', ho', hpre⟩ := ih p h
      exact ⟨k, List.mem_cons_of_mem _ hk, pk, o', ho', fun j hj => ⟨List.mem_cons_of_mem _ (hpre j hj).1, (hpre j hj).2⟩⟩
    · obtain ⟨k, hk, pk⟩ := hex
      rcases List.mem_cons.1 hk with rfl | hk
      · exact ⟨k, by simp, pk, o, ho, fun j hj => ⟨List.mem_cons_of_mem _ (hp j hj), fun pj => h ⟨j, hp j hj, pj⟩⟩⟩
      · exact absurd ⟨k, hk, pk⟩ h
structure Sim (P : Program) (N : Nat) (ops : List Oper) (ch L : List Nat) (listed : Array Bool) (pend : Nat → Prop) (e e' : Env) (S : St) : Prop where
  size : listed.size = ops.length
  topo : Topo ops L
  sub : ∀ i, pend i → i ∈ L ∧ i ∉ ch
  act : ∀ i, i < ops.length → (listed.getD i false = true ↔ i ∈ L ∧ ¬ pend i)
  env : ∀ t, (∀ f o, pend f → ops[f]? = some o → o.dst ≠ some t) → e'.get t = e.get t
  val : ∀ f, pend f → ∃ o d, ops[f]? = some o ∧ o.dst = some d ∧ d < N ∧ FVal P ops o e S (e.get d)
theorem lookLt {ops : List Oper} {i : Nat} {o : Oper} (h : ops[i]? = some o) : i < ops.length := (List.getElem?_eq_some_iff.1 h).1
theorem ready_iff {ops : List Oper} {listed : Array Bool} {j : Nat} (hs : listed.size = ops.length) : j ∈ Region.ready .any ops.toArray listed ↔
    listed.getD j false = false ∧ ∃ o, ops[j]? = some o ∧ ∀ i ∈ preds o, listed.getD i false = true := by
  rw [mem_ready]
  constructor
  · rintro ⟨h1, o, ho, h2⟩
    refine ⟨?_, o, by simpa using ho, ?_⟩
    · rw [Array.getD_eq_getD_getElem?] at h1 ⊢
      cases h : listed[j]? with
      | none => rfl
      | some b => rw [h] at h1; exact h1
    · intro i hi
      obtain ⟨e, he, hb, rfl⟩ := mem_preds.1 hi
      exact h2 e he hb
  · rintro ⟨h1, o, ho, h2⟩
    refine ⟨?_, o, by simpa using ho, fun e he hb => h2 _ (mem_preds.2 ⟨e, he, hb, rfl⟩)⟩
    have hlt : j < listed.size := by rw [hs]; exact lookLt ho
    rw [Array.getD_eq_getD_getElem?] at h1 ⊢
    simp [hlt] at h1 ⊢
    exact h1
theorem Sim.looks {P : Program} {N : Nat} {ops : List Oper} {ch L : List Nat} {listed : Array Bool} {pend : Nat → Prop} {e e' : Env} {S : St} (h : Sim P N ops ch L listed pend e e' S) (hp : Pairs ops ch) {j : Nat} {o : Oper}
    (ho : ops[j]? = some o) (hr : ∀ i ∈ preds o, listed.getD i false = true) (hj : pend j ∨ j ∉ L) : ∀ t ∈ o.looksAt ops.toArray, e.get t = e'.get t := by
  intro t ht
  refine (h.env t fun f x pf hx hd => ?_).symm
  by_cases hfj : f = j
  · subst hfj
    have e1 : x = o := by rw [hx] at ho; exact Option.some.inj ho
    exact hp.self f x t hx hd (h.sub f pf).2 (by rw [e1]; exact ht)
  · rcases hp.looks f j x o t hfj hx ho hd with h1 | h1 | ⟨h1, h2⟩
    · have := hr f h1
      exact ((h.act f (lookLt hx)).1 this).2 pf
    · exact h1 ht
    · exact (h.sub f pf).2 h2
theorem getD_set {listed : Array Bool} {i j : Nat} (hi : i < listed.size) : (listed.setIfInBounds i true).getD j false = if i = j then true else listed.getD j false := by
  simp only [Array.getD_eq_getD_getElem?, Array.getElem?_setIfInBounds]
  split
  · simp []
  · rfl
theorem setO_get {env : Env} {d t : Nat} {v : AV} : (env.setO (some d) v).get t = if d = t then v else env.get t := Env.get_set env d t v
theorem stab_spec {P : Program} {ops : List Oper} {env : Env} {S : St} : ∀ {l : List Nat}, stab P ops env S l → ∀ i ∈ l, stabOne P ops env S i
  | [], _, i, hi => by simp at hi
  | k :: r, h, i, hi => by
    rcases List.mem_cons.1 hi with rfl | hi
    · exact h.1
    · exact stab_spec h.2 i hi
theorem FVal.set {P : Program} {ops : List Oper} {o : Oper} {env : Env} {S : St} {v u : AV} {d : Tmp} (h : FVal P ops o env S v) (hd : d ∉ o.looksAt ops.toArray) : FVal P ops o (env.setO (some d) u) S v :=
  h.congr fun t ht => by
    rw [setO_get, if_neg]
    intro e
    exact hd (by rw [e]; exact ht)
theorem plan_sound {P : Program} {N : Nat} {ops : List Oper} {Q : AQ} {ch : List Nat} (hp : Pairs ops ch) {G0 : Gh} {S0 : St} {w0 : World} {ds : List Deferred} :
    ∀ (fuel : Nat) (pl : Plan) (L U : List Nat) (e e' : Env) (S : St) (pend : Nat → Prop) (listed : Array Bool) (G : Gh) (a : Act) (w : World),
    okPlan ops.toArray ch L [] pl = true → WPlan P N ops Q pl e S → Sim P N ops ch L listed pend e e' S → EnvRel N G e' a.tmps → Inv G S w → Ext G0 S0 w0 G S w → a.defers = ds →
    U.length ≤ fuel → (∀ i, i < ops.length → listed.getD i false = false → i ∈ U) → wpAny P .any ops.toArray (Post N G0 S0 w0 ds Q) fuel listed a w := by
  intro fuel
  have fin : ∀ (pl : Plan) (L : List Nat) (e e' : Env) (S : St) (pend : Nat → Prop) (listed : Array Bool) (G : Gh) (a : Act) (w : World),
      okPlan ops.toArray ch L [] pl = true → WPlan P N ops Q pl e S → Sim P N ops ch L listed pend e e' S → EnvRel N G e' a.tmps → Inv G S w → Ext G0 S0 w0 G S w → a.defers = ds →
      Region.ready .any ops.toArray listed = [] → Post N G0 S0 w0 ds Q .normal a w := by
    intro pl L e e' S pend listed G a w hok hW hS hE hI hX hds hr
    have no : ∀ j, j ∉ Region.ready .any ops.toArray listed := fun j => by rw [hr]; simp
    have nopend : ¬ ∃ i ∈ L, pend i := by
      intro hex
      obtain ⟨i, hi, pi, o, ho, hpre⟩ := hS.topo.first pend hex
      refine no i ((ready_iff hS.size).2 ⟨?_, o, ho, fun k hk => ?_⟩)
      · cases hb : listed.getD i false with
        | false => rfl
        | true => exact absurd pi ((hS.act i (lookLt ho)).1 hb).2
      · obtain ⟨ok, hok, _⟩ := hS.topo.mem (hpre k hk).1
        exact (hS.act k (lookLt hok)).2 ⟨(hpre k hk).1, (hpre k hk).2⟩
    have nop : ∀ i, ¬ pend i := fun i pi => nopend ⟨i, (hS.sub i pi).1, pi⟩
    have nonode : ∀ i o, i ∉ L → ops[i]? = some o → (∀ k ∈ preds o, k ∈ L) → False := by
      intro i o hi ho hk
      refine no i ((ready_iff hS.size).2 ⟨?_, o, ho, fun k hk' => ?_⟩)
      · cases hb : listed.getD i false with
        | false => rfl
        | true => exact absurd ((hS.act i (lookLt ho)).1 hb).1 hi
      · obtain ⟨ok, hok, _⟩ := hS.topo.mem (hk k hk')
        exact (hS.act k (lookLt hok)).2 ⟨hk k hk', nop k⟩
    have he : e' = e := funext fun t => hS.env t fun f o pf => absurd pf (nop f)
    subst he
    cases pl with
    | done => exact ⟨.normal, e', S, G, hW, trivial, hE, hI, hX, hds⟩
    | op i next =>
      simp only [okPlan, Bool.and_eq_true, Bool.not_eq_true', List.contains_eq_mem, decide_eq_false_iff_not] at hok
      obtain ⟨⟨⟨h1, h2⟩, _⟩, _⟩ := hok
      obtain ⟨o, ho, h3⟩ := opAt_spec h2
      simp only [Bool.and_eq_true] at h3
      exact (nonode i o h1 (by simpa using ho) (predsIn_spec.1 h3.1)).elim
    | step i chk next alt =>
      simp only [okPlan, Bool.and_eq_true, Bool.not_eq_true', List.contains_eq_mem, decide_eq_false_iff_not] at hok
      obtain ⟨⟨⟨⟨h1, h2⟩, _⟩, _⟩, _⟩ := hok
      obtain ⟨o, ho, h3⟩ := opAt_spec h2
      simp only [Bool.and_eq_true] at h3
      exact (nonode i o h1 (by simpa using ho) (predsIn_spec.1 h3.1)).elim
  induction fuel with
  | zero =>
    intro pl L U e e' S pend listed G a w hok hW hS hE hI hX hds hU hUl
    have hr : Region.ready .any ops.toArray listed = [] := by
      cases hr : Region.ready .any ops.toArray listed with
      | nil => rfl
      | cons j r =>
        have hj : j ∈ Region.ready .any ops.toArray listed := by rw [hr]; simp
        obtain ⟨h1, o, ho, _⟩ := (ready_iff hS.size).1 hj
        have := hUl j (lookLt ho) h1
        have hU0 : U = [] := List.eq_nil_of_length_eq_zero (by omega)
        rw [hU0] at this; simp at this
    exact ⟨hr, fin pl L e e' S pend listed G a w hok hW hS hE hI hX hds hr⟩
  | succ fuel IH =>
    intro pl L U e e' S pend listed G a w hok hW hS hE hI hX hds hU hUl
    refine ⟨fin pl L e e' S pend listed G a w hok hW hS hE hI hX hds, fun j hj => ?_⟩
    obtain ⟨hlj, o, ho, hpre⟩ := (ready_iff hS.size).1 hj
    have hjlt : j < ops.length := lookLt ho
    have hsz : ∀ {l : Array Bool}, l.size = ops.length → (l.setIfInBounds j true).size = ops.length := fun h => by simpa using h
    have hjU : j ∈ U := hUl j hjlt hlj
    have hU' : (U.erase j).length ≤ fuel := by rw [List.length_erase_of_mem hjU]; omega
    have hUl' : ∀ i, i < ops.length → (listed.setIfInBounds j true).getD i false = false → i ∈ U.erase j := by
      intro i hi h
      rw [getD_set (by rw [hS.size]; exact hjlt)] at h
      split at h
      · cases h
      · rename_i hne
        exact (List.mem_erase_of_ne (fun e => hne e.symm)).2 (hUl i hi h)
    have hget : ∀ i, (listed.setIfInBounds j true).getD i false = if j = i then true else listed.getD i false := fun i => getD_set (by rw [hS.size]; exact hjlt)
    by_cases hpj : pend j
    ·
      obtain ⟨o', d, ho', hd, hdN, hv⟩ := hS.val j hpj
      obtain rfl : o' = o := by rw [ho'] at ho; exact Option.some.inj ho
      have hst : StepA P ops o' (fun v S' => v = e.get d ∧ S' = S) (fun _ _ => False) e' S :=
        (fval_step hv ⟨rfl, rfl⟩).mono (hS.looks hp ho' hpre (.inl hpj)) (fun _ _ h => h) (fun _ _ h => h)
      refine stepA_sound hds ho' hst hE hI hX (fun _ _ h => h.elim) ?_
      rintro v x S' G' w' ⟨rfl, rfl⟩ hx hI' hX' hle
      refine IH pl L (U.erase j) e (e'.setO o'.dst (e.get d)) S' (fun i => pend i ∧ i ≠ j) _ G' _ w' hok hW ?_ ((hE.mono hle).put (by rw [hd]; exact hdN) hx) hI' hX' (by rw [put_defers]; exact hds) hU' hUl'
      refine ⟨hsz hS.size, hS.topo, fun i hi => hS.sub i hi.1, fun i hi => ?_, fun t ht => ?_, fun f hf => hS.val f hf.1⟩
      · rw [hget]
        by_cases hji : j = i
        · subst hji; simp [(hS.sub j hpj).1]
        · rw [if_neg hji, hS.act i hi]
          constructor
          · rintro ⟨h1, h2⟩; exact ⟨h1, fun h => h2 h.1⟩
          · rintro ⟨h1, h2⟩; exact ⟨h1, fun h => h2 ⟨h, fun e => hji e.symm⟩⟩
      · rw [hd, setO_get]
        by_cases hdt : d = t
        · rw [if_pos hdt, hdt]
        · rw [if_neg hdt]
          refine hS.env t fun f of pf hof => ?_
          by_cases hfj : f = j
          · subst hfj
            obtain rfl : of = o' := by rw [hof] at ho'; exact Option.some.inj ho'
            rw [hd]; exact fun h => hdt (Option.some.inj h)
          · exact ht f of ⟨pf, hfj⟩ hof
    ·
      have hjL : j ∉ L := fun h => by
        have := (hS.act j hjlt).2 ⟨h, hpj⟩
        rw [hlj] at this; cases this
      have main : ∀ (pl : Plan) (L fs : List Nat) (e : Env) (pend : Nat → Prop), okPlan ops.toArray ch L fs pl = true → WPlan P N ops Q pl e S → Sim P N ops ch L listed pend e e' S → j ∉ L → j ∉ fs →
          wpOp P ops.toArray (Post N G0 S0 w0 ds Q) j (wpAny P .any ops.toArray (Post N G0 S0 w0 ds Q) fuel (listed.setIfInBounds j true)) a w := by
        intro pl
        induction pl with
        | done =>
          intro L fs e pend hok hW hS hjL hfs
          simp only [okPlan, List.all_eq_true, List.mem_range, List.contains_eq_mem, decide_eq_true_eq, List.size_toArray] at hok
          exact absurd (hok j hjlt) hjL
        | op i next ih =>
          intro L fs e pend hok hW hS hjL hfs
          simp only [okPlan, Bool.and_eq_true, Bool.not_eq_true', List.contains_eq_mem, decide_eq_false_iff_not] at hok
          obtain ⟨⟨⟨h1, h2⟩, hich⟩, hnext⟩ := hok
          obtain ⟨oi, hoi, h3⟩ := opAt_spec h2
          replace hoi : ops[i]? = some oi := by simpa using hoi
          simp only [Bool.and_eq_true] at h3
          obtain ⟨h3, hdi⟩ := h3
          obtain ⟨d, hd⟩ := Option.isSome_iff_exists.1 hdi
          have hpi := predsIn_spec.1 h3
          simp only [WPlan, hoi] at hW
          obtain ⟨hdN, hW⟩ := hW
          have hv : ∃ v, FVal P ops oi e S v ∧ WPlan P N ops Q next (e.setO oi.dst v) S := by
            cases hw : wantedA ops e oi with
            | none => rw [hw] at hW; exact hW.elim
            | some b =>
              rw [hw] at hW
              cases b with
              | false => exact ⟨_, .inl ⟨hw, rfl⟩, hW⟩
              | true =>
                replace hW : opRes P (WPlan P N ops Q next) e S oi.dst (evalOp P oi e S) := hW
                unfold opRes at hW
                split at hW
                · rename_i v he; exact ⟨v, .inr ⟨hw, by rw [he]; rfl⟩, hW⟩
                · rename_i f args he
                  obtain ⟨v, hc, hW⟩ := hW
                  exact ⟨v, .inr ⟨hw, by rw [he]; exact hc⟩, hW⟩
                · exact hW.elim
          obtain ⟨v, hv, hWn⟩ := hv
          have hold : ∀ f of df, pend f → ops[f]? = some of → of.dst = some df → FVal P ops of e S (e.get df) → df ≠ d ∧ FVal P ops of (e.setO (some d) v) S ((e.setO (some d) v).get df) := by
            intro f of df pf hof hdf hvf
            have hfL := (hS.sub f pf).1
            have hfi : i ≠ f := fun h => h1 (h ▸ hfL)
            have hne : df ≠ d := fun h => hp.dst i f oi of d hfi hoi hof hd (h ▸ hdf)
            refine ⟨hne, ?_⟩
            rw [setO_get, if_neg (fun h => hne h.symm)]
            refine hvf.set ?_
            rcases hp.looks i f oi of d hfi hoi hof hd with h | h | ⟨_, h⟩
            · obtain ⟨of', hof', hpre'⟩ := hS.topo.mem hfL
              obtain rfl : of' = of := by rw [hof'] at hof; exact Option.some.inj hof
              exact absurd (hpre' i h) h1
            · exact h
            · exact absurd h hich
          by_cases hij : i = j
          · subst hij
            obtain rfl : oi = o := by rw [hoi] at ho; exact Option.some.inj ho
            have hst : StepA P ops oi (fun u S' => u = v ∧ S' = S) (fun _ _ => False) e' S :=
              (fval_step hv ⟨rfl, rfl⟩).mono (hS.looks hp hoi hpre (.inr h1)) (fun _ _ h => h) (fun _ _ h => h)
            refine stepA_sound hds hoi hst hE hI hX (fun _ _ h => h.elim) ?_
            rintro u x S' G' w' ⟨rfl, rfl⟩ hx hI' hX' hle
            refine IH next (i :: L) (U.erase i) (e.setO oi.dst u) (e'.setO oi.dst u) S' pend _ G' _ w' hnext hWn ?_ ((hE.mono hle).put hdN hx) hI' hX' (by rw [put_defers]; exact hds) hU' hUl'
            refine ⟨hsz hS.size, .cons hoi hpi h1 hS.topo, fun k hk => ⟨List.mem_cons_of_mem _ (hS.sub k hk).1, (hS.sub k hk).2⟩, fun k hk => ?_, fun t ht => ?_, fun f hf => ?_⟩
            · rw [hget]
              by_cases hik : i = k
              · subst hik
                simp only [if_true, List.mem_cons, true_or, true_and, true_iff]
                exact fun h => h1 (hS.sub i h).1
              · rw [if_neg hik, hS.act k hk, List.mem_cons]
                constructor
                · rintro ⟨h, h'⟩; exact ⟨.inr h, h'⟩
                · rintro ⟨h | h, h'⟩
                  · exact absurd h.symm hik
                  · exact ⟨h, h'⟩
            · rw [hd, setO_get, setO_get]
              split
              · rfl
              · exact hS.env t ht
            · obtain ⟨of, df, hof, hdf, hdfN, hvf⟩ := hS.val f hf
              obtain ⟨_, k2⟩ := hold f of df hf hof hdf hvf
              rw [hd]
              exact ⟨of, df, hof, hdf, hdfN, k2⟩
          · refine ih (i :: L) [] (e.setO oi.dst v) (fun k => pend k ∨ k = i) hnext hWn ?_ (by simp [hjL]; exact fun h => hij h.symm) (by simp)
            refine ⟨hS.size, .cons hoi hpi h1 hS.topo, ?_, fun k hk => ?_, fun t ht => ?_, ?_⟩
            · rintro k (hk | rfl)
              · exact ⟨List.mem_cons_of_mem _ (hS.sub k hk).1, (hS.sub k hk).2⟩
              · exact ⟨by simp, hich⟩
            · rw [hS.act k hk, List.mem_cons]
              constructor
              · rintro ⟨h, h'⟩
                exact ⟨.inr h, fun hh => hh.elim h' (fun hh => h1 (hh ▸ h))⟩
              · rintro ⟨h | h, h'⟩
                · exact absurd (.inr h) h'
                · exact ⟨h, fun hh => h' (.inl hh)⟩
            · rw [hd, setO_get, if_neg (fun h => ht i oi (.inr rfl) hoi (by rw [hd, h]))]
              exact hS.env t fun f of pf => ht f of (.inl pf)
            · rintro f (hf | rfl)
              · obtain ⟨of, df, hof, hdf, hdfN, hvf⟩ := hS.val f hf
                obtain ⟨_, k2⟩ := hold f of df hf hof hdf hvf
                rw [hd]
                exact ⟨of, df, hof, hdf, hdfN, k2⟩
              · refine ⟨oi, d, hoi, hd, by rw [hd] at hdN; exact hdN, ?_⟩
                rw [hd, setO_get, if_pos rfl]
                exact hv.set (hp.self f oi d hoi hd hich)
        | step i chk next alt ih1 ih2 =>
          intro L fs e pend hok hW hS hjL hfs
          simp only [okPlan, Bool.and_eq_true, Bool.not_eq_true', List.contains_eq_mem, decide_eq_false_iff_not] at hok
          obtain ⟨⟨⟨⟨h1, h2⟩, hich⟩, hnext⟩, halt⟩ := hok
          obtain ⟨oi, hoi, h3⟩ := opAt_spec h2
          replace hoi : ops[i]? = some oi := by simpa using hoi
          simp only [Bool.and_eq_true] at h3
          obtain ⟨h3, hchk⟩ := h3
          have hpi := predsIn_spec.1 h3
          simp only [WPlan, hoi] at hW
          obtain ⟨hWalt, hdN, hst⟩ := hW
          by_cases hij : i = j
          · subst hij
            obtain rfl : oi = o := by rw [hoi] at ho; exact Option.some.inj ho
            refine stepA_sound hds hoi (hst.mono (hS.looks hp hoi hpre (.inr h1)) (fun _ _ h => h) (fun _ _ h => h)) hE hI hX (fun v S' h => h e') ?_
            rintro v x S' G' w' ⟨hstab, hWn⟩ hx hI' hX' hle
            refine IH next (i :: L) (U.erase i) (e.setO oi.dst v) (e'.setO oi.dst v) S' pend _ G' _ w' hnext hWn ?_ ((hE.mono hle).put hdN hx) hI' hX' (by rw [put_defers]; exact hds) hU' hUl'
            refine ⟨hsz hS.size, .cons hoi hpi h1 hS.topo, fun k hk => ⟨List.mem_cons_of_mem _ (hS.sub k hk).1, (hS.sub k hk).2⟩, fun k hk => ?_, fun t ht => ?_, fun f hf => ?_⟩
            · rw [hget]
              by_cases hik : i = k
              · subst hik
                simp only [if_true, List.mem_cons, true_or, true_and, true_iff]
                exact fun h => h1 (hS.sub i h).1
              · rw [if_neg hik, hS.act k hk, List.mem_cons]
                constructor
                · rintro ⟨h, h'⟩; exact ⟨.inr h, h'⟩
                · rintro ⟨h | h, h'⟩
                  · exact absurd h.symm hik
                  · exact ⟨h, h'⟩
            · cases hd : oi.dst with
              | none => exact hS.env t ht
              | some d =>
                rw [setO_get, setO_get]
                split
                · rfl
                · exact hS.env t ht
            · obtain ⟨of, df, hof, hdf, hdfN, hvf⟩ := hS.val f hf
              obtain ⟨hfL, hfch⟩ := hS.sub f hf
              have hif : i ≠ f := fun h => h1 (h ▸ hfL)
              have hfp : f ∉ preds oi := fun h => ((hS.act f (lookLt hof)).1 (hpre f h)).2 hf
              have hl : ∀ t ∈ of.looksAt ops.toArray, e.get t = (e.setO oi.dst v).get t := by
                intro t ht
                cases hd : oi.dst with
                | none => rfl
                | some d =>
                  rw [setO_get, if_neg]
                  intro hdt
                  subst hdt
                  rcases hp.looks i f oi of d hif hoi hof hd with h | h | ⟨h, _⟩
                  · obtain ⟨of', hof', hpre'⟩ := hS.topo.mem hfL
                    obtain rfl : of' = of := by rw [hof'] at hof; exact Option.some.inj hof
                    exact h1 (hpre' i h)
                  · exact h ht
                  · exact hfp h
              have hg : (e.setO oi.dst v).get df = e.get df := by
                cases hd : oi.dst with
                | none => rfl
                | some d => rw [setO_get, if_neg (fun h => hp.dst i f oi of d hif hoi hof hd (by rw [h]; exact hdf))]
              refine ⟨of, df, hof, hdf, hdfN, ?_⟩
              rw [hg]
              have hv2 := hvf.congr hl
              have hsel := List.all_eq_true.1 hchk f hfL
              simp only [Bool.or_eq_true, decide_eq_true_eq] at hsel
              rcases hsel with ((h | h) | h) | h
              · exact absurd h hfch
              · obtain ⟨of', hof', hpu⟩ := opAt_spec h
                obtain rfl : of' = of := by rw [show ops[f]? = some of' by simpa using hof'] at hof; exact Option.some.inj hof
                rcases hv2 with h | ⟨k1, k2⟩
                · exact .inl h
                · exact .inr ⟨k1, yields_pure hpu k2⟩
              · exact absurd h hfp
              · have hso := stab_spec hstab f h
                simp only [stabOne, hof, hdf, hg] at hso
                rcases hv2 with h | ⟨k1, k2⟩
                · exact .inl h
                · rcases hso with h | h
                  · rw [k1] at h; cases h
                  · exact .inr ⟨k1, h⟩
          · cases hd : alt.isDone with
            | true =>
              rw [hd, cond_true] at halt
              have := List.all_eq_true.1 halt j (by simpa using hjlt)
              simp only [Bool.or_eq_true, decide_eq_true_eq, List.mem_cons, Bool.not_eq_true'] at this
              rcases this with (h | h | h) | h
              · exact absurd h hjL
              · exact absurd h.symm hij
              · exact absurd h hfs
              · unfold opAt at h
                have hoa : ops.toArray[j]? = some o := by simpa using ho
                rw [hoa] at h
                simp only at h
                have : predsIn L o = true := predsIn_spec.2 fun k hk => ((hS.act k (by
                  have := hpre k hk
                  rcases Nat.lt_or_ge k listed.size with h | h
                  · rw [← hS.size]; exact h
                  · rw [Array.getD_eq_getD_getElem?, Array.getElem?_eq_none h] at this; cases this)).1 (hpre k hk)).1
                rw [this] at h; cases h
            | false =>
              rw [hd, cond_false, Bool.and_eq_true] at halt
              rw [hd] at hWalt
              exact ih2 L (i :: fs) e pend halt.2 (hWalt.resolve_left (by simp)) hS hjL (by simp [hfs]; exact fun h => hij h.symm)
      exact main pl L [] e pend hok hW hS hjL (by simp)
theorem wdraw_plan {P : Program} {N id : Nat} {ops : Array Oper} {Q : AQ} {env : Env} {S : St} (ch : List Nat) (pl : Plan) (hm : P.follows .mixedOrders = true) (h1 : pairsOk ops ch = true) (h2 : okPlan ops ch [] [] pl = true)
    (h : WPlan P N ops.toList Q pl env S) : WDraw P N id ops Q env S := by
  intro G a w hE hI
  refine wp_region_any hm ?_
  refine plan_sound (ops := ops.toList) (pairsOk_spec (by simpa using h1)) ops.size pl [] (List.range ops.size) env env S (fun _ => False) _ G a _ (by simpa using h2) h ?_ hE hI.drew (.drew G S w) rfl (by simp) (fun i hi _ => by simpa using hi)
  refine ⟨by simp, .nil, fun i h => h.elim, fun i hi => ?_, fun t _ => rfl, fun f h => h.elim⟩
  have : i < ops.size := by simpa using hi
  simp [Array.getD_eq_getD_getElem?, this]
end Go.Abs

namespace Go.Abs
theorem opnd_tmp (env : Env) (t : Nat) : opnd env (.tmp t) = some (env.get t) := rfl
theorem opnd_bool (env : Env) (b : Bool) : opnd env (.const (.bool b)) = some (.c (.bool b)) := rfl
theorem opnd_int (env : Env) (k : IntKind) (n : Int) : opnd env (.const (.int k n)) = some (.c (.int k n)) := rfl
theorem opnd_str (env : Env) (l : List UInt8) : opnd env (.const (.string ⟨l.toArray⟩)) = some (.c (.str l)) := rfl
theorem opnd_nilp (env : Env) : opnd env (.const (.pointer none)) = some (.c .nilp) := rfl
theorem opnd_nils (env : Env) : opnd env (.const (.slice none 0 0)) = some (.c .nils) := rfl
theorem opnd_nilm (env : Env) : opnd env (.const (.map none)) = some (.c .nilm) := rfl
theorem opnd_nilf (env : Env) : opnd env (.const .nilFunc) = some (.c .nilf) := rfl
theorem opnd_nili (env : Env) : opnd env (.const .nilIface) = some (.c .nili) := rfl
theorem opnd_func (env : Env) (f : Nat) : opnd env (.func f) = some (.c (.fn f)) := rfl
theorem opnd_global (env : Env) (g : Nat) : opnd env (.global g) = some (.gref g) := rfl
theorem get_set_eq (e : Env) (t : Nat) (v : AV) : (e.set t v).get t = v := by simp [Env.get_set]
theorem get_set_ne (e : Env) (t u : Nat) (v : AV) (h : t ≠ u) : (e.set t v).get u = e.get u := by simp [Env.get_set, h]
theorem ble_dec (a b : Nat) : Nat.ble a b = decide (a ≤ b) := by
  by_cases h : a ≤ b
  · simp [Nat.ble_eq_true_of_le h, h]
  · cases hb : Nat.ble a b with
    | false => simp [h]
    | true => exact absurd (Nat.le_of_ble_eq_true hb) h
theorem blt_dec (a b : Nat) : Nat.blt a b = decide (a < b) := by
  rw [Nat.blt, ble_dec]; rfl
theorem beq_dec (a b : Nat) : Nat.beq a b = decide (a = b) := by
  by_cases h : a = b
  · simp [h]
  · simp [h, beq_ne h]
def endR (P : Program) (B : Nat) (R : CX → St → Prop) (S : St) : Option (List AV) → Prop
  | some [v] => ends P B R v S
  | some [] => ends P B R (.tup []) S
  | some (a :: b :: l) => ends P B R (.tup (a :: b :: l)) S
  | none => False
def bodyR (P : Program) (rs : List ResultVar) (B : Nat) (R : CX → St → Prop) : AQ
  | .normal, env, S => endR P B R S (resAs P env S rs)
  | .ret, env, S => endR P B R S (resAs P env S rs)
  | .panic v, _, S => R (.panic v) S
  | .exit _, _, _ => False
theorem endR_resultA {P : Program} {fn : Func} {B : Nat} {R : CX → St → Prop} {env : Env} {S : St} (h : endR P B R S (resAs P env S fn.results.toList)) :
    (match resultA P fn env S with
    | some v => ends P B R v S
    | none => False) := by
  unfold resultA
  cases hr : resAs P env S fn.results.toList with
  | none => rw [hr] at h; exact h
  | some l =>
    rw [hr] at h
    match l, h with
    | [], h => exact h
    | [v], h => exact h
    | a :: b :: l, h => exact h
theorem WCode.mono {P : Program} {N : Nat} {c : Code} {Q Q' : AQ} {env : Env} {S : St} (h : WCode P N c Q env S) (hq : ∀ x env S, Q x env S → Q' x env S) : W P N c Q' env S :=
  (wcode_sound h).mono hq
theorem wc_fn {P : Program} {f : FuncId} {fn : Func} {c : Code} {N : Nat} {rs : List ResultVar} (hf : P.funcs[f]? = some fn) (hn : (fn.name == "runtime.NumGoroutine") = false) (hb : fn.body = some c)
    (hN : fn.ntmps = N) (hr : fn.results.toList = rs) {args : List AV} {R : CX → St → Prop} {S : St} (hlen : Nat.ble args.length N = true) (h : Shut S → WCode P N c (bodyR P rs S.next R) (envOf args 0) S) : WC P f args R S := by
  subst hN; subst hr
  refine wc_of_body' hf hn hb (Nat.le_of_ble_eq_true hlen) fun hS => (wcode_sound (h hS)).mono ?_
  intro x env S' hx
  cases x with
  | normal => exact endR_resultA hx
  | ret => exact endR_resultA hx
  | panic v => exact hx
  | exit i => exact hx
theorem wc_is {P : Program} {f : FuncId} {args : List AV} {v : AV} {S S0 : St} {K : CX → St → Prop} (h : WC P f args (Is v S0) S) (hk : K (.ret v) S0) : WC P f args K S :=
  h.mono fun x S' ⟨h1, h2⟩ => by subst h1; subst h2; exact hk
theorem ends_now {P : Program} {B : Nat} {R : CX → St → Prop} {v : AV} {S : St} (h : R (.ret v) S) : ends P B R v S := .inl (.inl h)
theorem ends_pop {P : Program} {B : Nat} {R : CX → St → Prop} {v : AV} {S : St} (h1 : v.under B 4 = true) (h2 : PopOk B S) (h : R (.ret v) (S.pop B)) : ends P B R v S := .inl (.inr ⟨h1, h2, h⟩)
theorem ends_freeze {P : Program} {B : Nat} {R : CX → St → Prop} {v v' : AV} {S S' : St} (hf : freezeA P v S = (v', S')) (h1 : v'.under B 4 = true) (h2 : PopOk B S') (h : R (.ret v') (S'.pop B)) : ends P B R v S :=
  .inr (.inr (by rw [hf]; exact ⟨h1, h2, h⟩))
section
variable {P : Program} {N : Nat} {ops : List Oper} {Q : AQ} {K : Env → St → Prop} {KA Pan : AV → St → Prop} {env : Env} {S : St} {d : Option Tmp} {o : Oper} {R : CX → St → Prop} {B : Nat}
theorem wops_nil : WOps P N ops Q [] env S = Q .normal env S := rfl
theorem wops_cons {rest : List Oper} : WOps P N ops Q (o :: rest) env S = (dstOk N o.dst ∧ guardK P (WOps P N ops Q rest) Q o env S (wantedA ops env o)) := rfl
theorem guardK_false : guardK P K Q o env S (some false) = K (env.setO o.dst (.tup [])) S := rfl
theorem guardK_true : guardK P K Q o env S (some true) = resK P K Q env S o.dst (evalOp P o env S) := rfl
theorem resK_val {v : AV} {cm : List Cmd} : resK P K Q env S d (some (.val v cm)) = K (env.setO d v) (S.run cm) := rfl
theorem resK_skip {cm : List Cmd} : resK P K Q env S d (some (.skip cm)) = K (env.setO d (.tup [])) (S.run cm) := rfl
theorem resK_call {f : FuncId} {args : List AV} : resK P K Q env S d (some (.call f args)) = WC P f args (callK K Q env d) S := rfl
theorem resK_pan {v : AV} : resK P K Q env S d (some (.pan v)) = Q (.panic v) env S := rfl
theorem resK_any {l : List (AV × List Cmd)} : resK P K Q env S d (some (.any l)) = ∀ p ∈ l, K (env.setO d p.1) (S.run p.2) := rfl
theorem stepRes_any {l : List (AV × List Cmd)} : stepRes P KA Pan S (some (.any l)) = ∀ p ∈ l, KA p.1 (S.run p.2) := rfl
theorem callK_ret {v : AV} : callK K Q env d (.ret v) S = K (env.setO d v) S := rfl
theorem callK_panic {v : AV} : callK K Q env d (.panic v) S = Q (.panic v) env S := rfl
theorem contK_ret {v : AV} : contK KA Pan (.ret v) S = KA v S := rfl
theorem contK_panic {v : AV} : contK KA Pan (.panic v) S = Pan v S := rfl
theorem stepA_false : stepA P o KA Pan env S (some false) = KA (.tup []) S := rfl
theorem stepA_true : stepA P o KA Pan env S (some true) = stepRes P KA Pan S (evalOp P o env S) := rfl
theorem stepRes_val {v : AV} {cm : List Cmd} : stepRes P KA Pan S (some (.val v cm)) = KA v (S.run cm) := rfl
theorem stepRes_skip {cm : List Cmd} : stepRes P KA Pan S (some (.skip cm)) = KA (.tup []) (S.run cm) := rfl
theorem stepRes_call {f : FuncId} {args : List AV} : stepRes P KA Pan S (some (.call f args)) = WC P f args (contK KA Pan) S := rfl
theorem stepRes_pan {v : AV} : stepRes P KA Pan S (some (.pan v)) = Pan v S := rfl
theorem stepK_eq {chk : List Nat} {v : AV} : stepK P ops chk K env d v S = (stab P ops (env.setO d v) S chk ∧ K (env.setO d v) S) := rfl
theorem panK_eq {v : AV} : panK Q v S = ∀ env, Q (.panic v) env S := rfl
theorem opA_false : opA P K o env S (some false) = K (env.setO o.dst (.tup [])) S := rfl
theorem opA_true : opA P K o env S (some true) = opRes P K env S o.dst (evalOp P o env S) := rfl
theorem opRes_val {v : AV} : opRes P K env S d (some (.val v [])) = K (env.setO d v) S := rfl
theorem stab_nil : stab P ops env S [] = True := rfl
theorem stab_cons {i : Nat} {r : List Nat} : stab P ops env S (i :: r) = (stabOne P ops env S i ∧ stab P ops env S r) := rfl
def stabAt (P : Program) (ops : List Oper) (env : Env) (S : St) : Option Oper → Prop
  | none => False
  | some o => stabD P ops env S o o.dst
where stabD (P : Program) (ops : List Oper) (env : Env) (S : St) (o : Oper) : Option Tmp → Prop
  | none => False
  | some d => wantedA ops env o = some false ∨ Yields P (env.get d) S (evalOp P o env S)
theorem stabOne_eq {i : Nat} : stabOne P ops env S i = stabAt P ops env S ops[i]? := by
  unfold stabOne stabAt
  cases ops[i]? with
  | none => rfl
  | some o =>
    simp only
    unfold stabAt.stabD
    cases o.dst <;> rfl
theorem stabAt_some : stabAt P ops env S (some o) = stabAt.stabD P ops env S o o.dst := rfl
theorem stabD_some {d : Tmp} : stabAt.stabD P ops env S o (some d) = (wantedA ops env o = some false ∨ Yields P (env.get d) S (evalOp P o env S)) := rfl
theorem yields_val {u v : AV} : Yields P v S (some (.val u [])) = (u = v) := rfl
theorem yields_call {f : FuncId} {args : List AV} {v : AV} : Yields P v S (some (.call f args)) = WC P f args (Is v S) S := rfl
theorem wplan_done : WPlan P N ops Q .done env S = Q .normal env S := rfl
def atOp (N : Nat) (K : Oper → Prop) : Option Oper → Prop
  | none => False
  | some o => dstOk N o.dst ∧ K o
def opAt' (P : Program) (ops : List Oper) (K : Env → St → Prop) (env : Env) (S : St) (o : Oper) : Prop := opA P K o env S (wantedA ops env o)
def stepAt (P : Program) (ops : List Oper) (chk : List Nat) (K : Env → St → Prop) (Q : AQ) (env : Env) (S : St) (o : Oper) : Prop :=
  stepA P o (stepK P ops chk K env o.dst) (panK Q) env S (wantedA ops env o)
theorem wplan_op {i : Nat} {next : Plan} : WPlan P N ops Q (.op i next) env S = atOp N (opAt' P ops (WPlan P N ops Q next) env S) ops[i]? := by
  simp only [WPlan]
  cases ops[i]? <;> rfl
theorem wplan_step {i : Nat} {chk : List Nat} {next alt : Plan} : WPlan P N ops Q (.step i chk next alt) env S =
    ((alt.isDone = true ∨ WPlan P N ops Q alt env S) ∧ atOp N (stepAt P ops chk (WPlan P N ops Q next) Q env S) ops[i]?) := by
  simp only [WPlan]
  cases ops[i]? <;> rfl
theorem atOp_some {K : Oper → Prop} : atOp N K (some o) = (dstOk N o.dst ∧ K o) := rfl
theorem opAt'_eq : opAt' P ops K env S o = opA P K o env S (wantedA ops env o) := rfl
theorem stepAt_eq {chk : List Nat} : stepAt P ops chk K Q env S o = stepA P o (stepK P ops chk K env o.dst) (panK Q) env S (wantedA ops env o) := rfl
theorem isDone_done : Plan.done.isDone = true := rfl
theorem isDone_step {i : Nat} {chk : List Nat} {next alt : Plan} : (Plan.step i chk next alt).isDone = false := rfl
theorem thenX_normal {next : Env → St → Prop} : thenX next Q .normal env S = next env S := rfl
theorem thenX_exit {next : Env → St → Prop} {i : Nat} : thenX next Q (.exit i) env S = Q (.exit i) env S := rfl
theorem thenX_ret {next : Env → St → Prop} : thenX next Q .ret env S = Q .ret env S := rfl
theorem thenX_panic {next : Env → St → Prop} {v : AV} : thenX next Q (.panic v) env S = Q (.panic v) env S := rfl
theorem blockX_normal {i : Nat} : blockX i Q .normal env S = Q .normal env S := rfl
theorem blockX_exit {i j : Nat} : blockX i Q (.exit j) env S = if j = i then Q .normal env S else Q (.exit j) env S := rfl
theorem blockX_ret {i : Nat} : blockX i Q .ret env S = Q .ret env S := rfl
theorem blockX_panic {i : Nat} {v : AV} : blockX i Q (.panic v) env S = Q (.panic v) env S := rfl
theorem wcode_skip : WCode P N .skip Q env S = Q .normal env S := rfl
theorem wcode_region {id : Nat} {xs : List Oper} : WCode P N (.region id ⟨xs⟩ false) Q env S = WOps P N xs Q xs env S := rfl
theorem wcode_draw {id : Nat} {xs : Array Oper} : WCode P N (.region id xs true) Q env S = WDraw P N id xs Q env S := rfl
theorem wcode_seq {x y : Code} : WCode P N (.seq x y) Q env S = WCode P N x (thenX (WCode P N y Q) Q) env S := rfl
theorem wcode_cond {c : Operand} {x y : Code} : WCode P N (.cond c x y) Q env S = condK (WCode P N x Q) (WCode P N y Q) env S (opnd env c) := rfl
theorem wcode_block {id : Nat} {x : Code} : WCode P N (.block id x) Q env S = WCode P N x (blockX id Q) env S := rfl
theorem wcode_loop {x : Code} : WCode P N (.loop x) Q env S = WLoop P N x Q env S := rfl
theorem wcode_exit {id : Nat} : WCode P N (.exit id) Q env S = Q (.exit id) env S := rfl
theorem wcode_ret : WCode P N .ret Q env S = Q .ret env S := rfl
theorem condK_true {A C : Env → St → Prop} : condK A C env S (some (.c (.bool true))) = A env S := rfl
theorem condK_false {A C : Env → St → Prop} : condK A C env S (some (.c (.bool false))) = C env S := rfl
theorem bodyR_normal {rs : List ResultVar} : bodyR P rs B R .normal env S = endR P B R S (resAs P env S rs) := rfl
theorem bodyR_ret {rs : List ResultVar} : bodyR P rs B R .ret env S = endR P B R S (resAs P env S rs) := rfl
theorem bodyR_panic {rs : List ResultVar} {v : AV} : bodyR P rs B R (.panic v) env S = R (.panic v) S := rfl
theorem endR_one {v : AV} : endR P B R S (some [v]) = ends P B R v S := rfl
theorem endR_none : endR P B R S (some []) = ends P B R (.tup []) S := rfl
theorem endR_two {a b : AV} {l : List AV} : endR P B R S (some (a :: b :: l)) = ends P B R (.tup (a :: b :: l)) S := rfl
theorem dstOk_some {t : Tmp} : dstOk N (some t) = (t < N) := rfl
theorem dstOk_none : dstOk N none = True := rfl
theorem setO_some {t : Tmp} {v : AV} : env.setO (some t) v = env.set t v := rfl
theorem setO_none {v : AV} : env.setO none v = env := rfl
def wantV (want : Bool) : AV → Option Bool
  | .c (.bool b) => some (b == want)
  | .tup [] => some false
  | _ => none
def wantG (env : Env) (want : Bool) : Option Oper → Option Bool
  | some g => (match g.dst with | some t => wantV want (env.get t) | none => none)
  | none => none
def wantO (ops : List Oper) (env : Env) : Option (Nat × Bool) → Option Bool
  | none => some true
  | some (j, w) => wantG env w ops[j]?
theorem wantedA_eq : wantedA ops env o = wantO ops env o.guard := by
  unfold wantedA wantO
  cases o.guard with
  | none => rfl
  | some p =>
    obtain ⟨j, w⟩ := p
    simp only [wantG]
    cases ops[j]? with
    | none => rfl
    | some g =>
      simp only
      cases g.dst <;> rfl
theorem wantO_none : wantO ops env none = some true := rfl
theorem wantO_some {j : Nat} {w : Bool} : wantO ops env (some (j, w)) = wantG env w ops[j]? := rfl
theorem wantG_some {w : Bool} {t : Tmp} {op : Op} {type : TypeId} {pos : String} {after : Array Edge} {guard : Option (Nat × Bool)} : wantG env w (some { dst := some t, op, type, pos, after, guard }) = wantV w (env.get t) := rfl
theorem wantV_true {b : Bool} : wantV true (.c (.bool b)) = some b := by cases b <;> rfl
theorem wantV_false {b : Bool} : wantV false (.c (.bool b)) = some (!b) := by cases b <;> rfl
theorem wantV_tup {w : Bool} : wantV w (.tup []) = some false := rfl
end
attribute [go_sem] resK_any stepRes_any aNextMap aNextIn aEntry aEntryIn entOf wops_nil wops_cons guardK_false guardK_true resK_val resK_skip resK_call resK_pan callK_ret callK_panic contK_ret contK_panic stepA_false stepA_true stepRes_val stepRes_skip stepRes_call stepRes_pan
  stepK_eq panK_eq opA_false opA_true opRes_val yields_val yields_call stab_nil stab_cons stabOne_eq stabAt_some stabD_some wplan_done wplan_op wplan_step atOp_some opAt'_eq stepAt_eq isDone_done isDone_step thenX_normal thenX_exit thenX_ret thenX_panic
  blockX_normal blockX_exit blockX_ret blockX_panic wcode_skip wcode_region wcode_draw wcode_seq wcode_cond wcode_block wcode_loop wcode_exit wcode_ret condK_true condK_false bodyR_normal bodyR_ret bodyR_panic
  endR_one endR_none endR_two dstOk_some dstOk_none setO_some setO_none wantedA_eq wantO_none wantO_some wantG_some wantV_true wantV_false wantV_tup
  evalOp evMove evPick evAlloc evBox evBuild evBuildSlice evLoad evStore evNilCheck evBinOp evUnOp evConvert evMakeInterface evMakeFunc evMakeMap evMakeSlice evSlice evFieldAddr evField evIndexAddr evIndex evLookup evMapUpdate evRange evNextStr evNextMap evEntry evTypeAssert evExtract evPanic evBuiltin evCall opnd_tmp opnd_bool opnd_int opnd_str opnd_nilp opnd_nils opnd_nilm opnd_nilf opnd_nili opnd_func opnd_global
  get_set_eq get_set_ne envOf_nil envOf_cons Option.map_some Option.map_none St.run St.cmd and_true true_and if_true if_false ite_true ite_false aBin aInt ne_eq not_true_eq_false not_false_eq_true
  cond_true cond_false List.getElem?_cons_zero List.getElem?_cons_succ Bool.not_true Bool.not_false Bool.not_eq_true' Bool.true_eq_false Bool.false_eq_true false_implies true_implies implies_true
  forall_const List.toList_toArray opnds optA partsA AV.cells FV.cells List.map_cons List.map_nil setRange List.take_succ_cons List.take_zero List.drop_succ_cons List.drop_zero
  List.cons_append List.nil_append List.append_nil List.length_cons List.length_nil ble_dec blt_dec beq_dec decide_true decide_false decide_eq_true_eq mkAgg allPure partOf aLoad aStore aNew
  AV.loose AV.scalar List.all_cons List.all_nil List.any_cons List.any_nil Bool.and_true Bool.true_and Bool.or_false Bool.false_or Bool.and_false Bool.false_and Bool.or_true Bool.true_or
  St.get_put St.get_new next_new next_put aUn aSlice aIndexAddr aIndex boundA aConv aBuiltin lenA aAppend aCopy rowCells calleeA
  fillA repCells AV.isRef AV.isRow aStr aEq List.length_map resAs resA or_true true_or or_false false_or and_self
end Go.Abs

namespace Go.Abs
open Go.RowKit
theorem cell_below {w w' : World} (hb : Below w.heap.size w w') {a : Addr} {v : Value} (h : w.cell? a = some v) : w'.cell? a = some v := by
  have hlt : a.block < w.heap.size := by
    rcases Nat.lt_or_ge a.block w.heap.size with h1 | h1
    · exact h1
    · unfold World.cell? at h; rw [Array.getElem?_eq_none h1] at h; cases h
  unfold World.cell? at h ⊢
  rwa [hb.block _ hlt]
theorem heap_lt {w : World} {g : Nat} {o : Obj} (h : w.heap[g]? = some o) : g < w.heap.size := (Array.getElem?_eq_some_iff.1 h).1
theorem inv_below {G : Gh} {S : St} {w w' : World} (h : Inv G S w) (hb : Below w.heap.size w w') : Inv G S w' ∧ Ext G S w G S w' := by
  have keep : ∀ {g o}, w.heap[g]? = some o → w'.heap[g]? = some o := fun ho => by rw [hb.block _ (heap_lt ho)]; exact ho
  refine inv_and h rfl ⟨⟨h.wf, fun g o v hv => cell_below hb (h.cells g o v hv), ?_, h.apart, ?_, h.tags, h.nodup, h.fresh, fun b B hB => ⟨Nat.lt_of_lt_of_le (h.born b B hB).1 hb.size, (h.born b B hB).2⟩⟩,
    ⟨.refl G, Nat.le_refl _, hb.size, fun g hg _ => hb.block g hg, fun g ho => .inl ho, hb.os, hb.tape, hb.output⟩⟩
  · intro b ob hob hl
    obtain ⟨B, hB, hr⟩ := h.obs b ob hob hl
    refine ⟨B, hB, ?_⟩
    cases ob with
    | blk cs ro T =>
      obtain ⟨k1, k2, C, lo, hi, k3, k4⟩ := hr
      exact ⟨k1, k2, C, lo, hi, keep k3, k4⟩
    | map es bs ck =>
      obtain ⟨es', k1, k2⟩ := hr
      exact ⟨es', keep k1, k2⟩
    | siter s pos => exact ⟨keep hr.1, hr.2⟩
    | miter m ck seen =>
      obtain ⟨⟨Bm, k1, k2⟩, k3⟩ := hr
      exact ⟨⟨Bm, k1, keep k2⟩, k3⟩
    | niter => exact ⟨keep hr.1, hr.2⟩
    | dead => trivial
  · intro t ht
    obtain ⟨g, st, en, s, k1, ⟨C, T, lo, hi, k2, k3⟩, k4⟩ := h.spare t ht
    exact ⟨g, st, en, s, k1, ⟨C, T, lo, hi, keep k2, k3⟩, k4⟩
theorem wc_calls {P : Program} {f : FuncId} {args : List AV} {v : AV} {S : St} (hrun : ∀ vals w, Sem.run P (callFunc f vals) w = .ok (.enter f vals) w)
    (h : ∀ G (vals : List Value) w, RelL G args vals → Inv G S w → Calls P f vals.toArray w fun e w' => ∃ x, e = .returned x ∧ RelA G v x ∧ Below w.heap.size w w') : WC P f args (Is v S) S := by
  intro G vals w hr hI
  unfold Upon
  rw [hrun]
  refine Calls.mono (h G vals w hr hI) ?_
  rintro e w' ⟨x, rfl, hx, hb⟩
  obtain ⟨k1, k2⟩ := inv_below hI hb
  exact ⟨.ret v, S, G, ⟨rfl, rfl⟩, hx, k1, k2⟩
theorem relL_one {G : Gh} {a : AV} {vs : List Value} (h : RelL G [a] vs) : ∃ x, vs = [x] ∧ RelA G a x := by
  match vs, h with
  | [x], h => exact ⟨x, rfl, h.rel 0 _ _ rfl rfl⟩
  | [], h => have := h.len; simp at this
  | _ :: _ :: _, h => have := h.len; simp at this
theorem relL_two {G : Gh} {a b : AV} {vs : List Value} (h : RelL G [a, b] vs) : ∃ x y, vs = [x, y] ∧ RelA G a x ∧ RelA G b y := by
  match vs, h with
  | [x, y], h => exact ⟨x, y, rfl, h.rel 0 _ _ rfl rfl, h.rel 1 _ _ rfl rfl⟩
  | [], h => have := h.len; simp at this
  | [_], h => have := h.len; simp at this
  | _ :: _ :: _ :: _, h => have := h.len; simp at this
theorem rel_str {G : Gh} {l : List UInt8} {x : Value} (h : RelA G (.c (.str l)) x) : x = .string ⟨l.toArray⟩ := by
  cases h with
  | c h => cases h; rfl
theorem rel_int {G : Gh} {k : IntKind} {n : Int} {x : Value} (h : RelA G (.c (.int k n)) x) : x = .int k n := by
  cases h with
  | c h => cases h; rfl
theorem str_rel (G : Gh) (l : List UInt8) : RelA G (.c (.str l)) (.string ⟨l.toArray⟩) := .c (.str ⟨l.toArray⟩)
theorem popOk_put_ge {S : St} {B b : Nat} {o : Ob} (h : B ≤ b) (hp : PopOk B S) : PopOk B (S.put b o) := popOk_put (.inl h) hp
theorem freeze_row {P : Program} {S : St} {b off len s : Nat} {full : Bool} {cs : List AV} {ro : Nat} {T : TypeId} {ag : Bool} {l : List FV} (hg : S.get b = some (.blk cs ro T)) (hag : isAggT P T = some ag)
    (hsz : szT P T = some s) (hl : allPure cs = some l) (hc : off + len * s ≤ cs.length) (h1 : ag = false → s = 1) :
    freezeA P (.sl b off len s full) S = (.c (.sl (unflat ag s len (l.drop off))), S.put b .dead) := by
  have : freezeRow P b off len s S = some (.sl (unflat ag s len (l.drop off))) := by
    simp only [freezeRow, hg, hag, hsz, hl]
    rw [if_pos ⟨trivial, hc, h1⟩]
  simp only [freezeA, freezeP, freezeV, this]
theorem ends_row {P : Program} {B : Nat} {R : CX → St → Prop} {S : St} {b off len s : Nat} {full : Bool} {cs : List AV} {ro : Nat} {T : TypeId} {ag : Bool} {l : List FV} (hg : S.get b = some (.blk cs ro T)) (hag : isAggT P T = some ag)
    (hsz : szT P T = some s) (hl : allPure cs = some l) (hc : Nat.ble (off + len * s) cs.length = true) (h1 : ag = false → s = 1) (hb : B ≤ b) (hp : PopOk B S)
    (h : R (.ret (.c (.sl (unflat ag s len (l.drop off))))) (S.pop B)) : ends P B R (.sl b off len s full) S :=
  ends_freeze (freeze_row hg hag hsz hl (Nat.le_of_ble_eq_true hc) h1) rfl (popOk_put_ge hb hp) (by rw [pop_put hb]; exact h)
theorem ends_popped {P : Program} {B : Nat} {R : CX → St → Prop} {v : AV} {S S0 : St} (h1 : v.under B 4 = true) (h2 : PopOk B S) (hS : S.pop B = S0) (h : R (.ret v) S0) : ends P B R v S :=
  ends_pop h1 h2 (by rw [hS]; exact h)
end Go.Abs

namespace Go.Abs
theorem wrap_i64 (n : Int) (h0 : -9223372036854775808 ≤ n) (h1 : n ≤ 9223372036854775807) : IntKind.i64.wrap n = n := IntWalk.i64_in n ⟨h0, h1⟩
theorem wrap_i32 (n : Int) (h0 : -2147483648 ≤ n) (h1 : n ≤ 2147483647) : IntKind.i32.wrap n = n := by
  simp [IntKind.wrap, IntKind.bits, IntKind.signed]
  omega
theorem wrap_u8_mod (n : Int) : IntKind.u8.wrap n = n % 256 := by simp [IntKind.wrap, IntKind.bits, IntKind.signed]
theorem wrap_u8 (n : Int) (h0 : 0 ≤ n) (h1 : n ≤ 255) : IntKind.u8.wrap n = n := by rw [wrap_u8_mod]; omega
theorem encode_small (n : Int) (h0 : 0 ≤ n) (h1 : n < 128) : (Utf8.encode n).data.toList = [UInt8.ofNat n.toNat] := by
  have hv : Utf8.valid n = true := by
    simp only [Utf8.valid]
    simp only [Bool.and_eq_true, Bool.or_eq_true, decide_eq_true_eq]
    omega
  simp only [Utf8.encode, hv, if_true]
  rw [if_pos (by omega)]
section
variable {P : Program} {K : Env → St → Prop} {Q : AQ} {o : Oper} {env : Env} {S : St} {KA Pan : AV → St → Prop} {A C : Env → St → Prop} {b : Bool}
theorem guardK_split (h1 : b = true → guardK P K Q o env S (some true)) (h2 : b = false → guardK P K Q o env S (some false)) : guardK P K Q o env S (some b) := by
  cases b with
  | true => exact h1 rfl
  | false => exact h2 rfl
theorem guardK_split_not (h1 : b = false → guardK P K Q o env S (some true)) (h2 : b = true → guardK P K Q o env S (some false)) : guardK P K Q o env S (some (!b)) := by
  cases b with
  | true => exact h2 rfl
  | false => exact h1 rfl
theorem opA_split_not (h1 : b = false → opA P K o env S (some true)) (h2 : b = true → opA P K o env S (some false)) : opA P K o env S (some (!b)) := by
  cases b with
  | true => exact h2 rfl
  | false => exact h1 rfl
theorem stepA_split_not (h1 : b = false → stepA P o KA Pan env S (some true)) (h2 : b = true → stepA P o KA Pan env S (some false)) : stepA P o KA Pan env S (some (!b)) := by
  cases b with
  | true => exact h2 rfl
  | false => exact h1 rfl
theorem condK_split_not (h1 : b = false → condK A C env S (some (.c (.bool true)))) (h2 : b = true → condK A C env S (some (.c (.bool false)))) : condK A C env S (some (.c (.bool (!b)))) := by
  cases b with
  | true => exact h2 rfl
  | false => exact h1 rfl
theorem opA_split (h1 : b = true → opA P K o env S (some true)) (h2 : b = false → opA P K o env S (some false)) : opA P K o env S (some b) := by
  cases b with
  | true => exact h1 rfl
  | false => exact h2 rfl
theorem stepA_split (h1 : b = true → stepA P o KA Pan env S (some true)) (h2 : b = false → stepA P o KA Pan env S (some false)) : stepA P o KA Pan env S (some b) := by
  cases b with
  | true => exact h1 rfl
  | false => exact h2 rfl
theorem condK_split (h1 : b = true → condK A C env S (some (.c (.bool true)))) (h2 : b = false → condK A C env S (some (.c (.bool false)))) : condK A C env S (some (.c (.bool b))) := by
  cases b with
  | true => exact h1 rfl
  | false => exact h2 rfl
end
theorem guardK_mono {P : Program} {K K' : Env → St → Prop} {Q Q' : AQ} {o : Oper} {env : Env} {S : St} {b : Option Bool} (h : guardK P K Q o env S b) (hk : ∀ e S, K e S → K' e S) (hq : ∀ x e S, Q x e S → Q' x e S) :
    guardK P K' Q' o env S b := by
  match b, h with
  | some false, h => exact hk _ _ h
  | some true, h =>
    show resK P K' Q' env S o.dst (evalOp P o env S)
    have h : resK P K Q env S o.dst (evalOp P o env S) := h
    cases he : evalOp P o env S with
    | none => rw [he] at h; exact h.elim
    | some r =>
      rw [he] at h
      cases r with
      | val v cm => exact hk _ _ h
      | skip cm => exact hk _ _ h
      | call f args =>
        refine WC.mono h fun x S' => ?_
        cases x with
        | ret v => exact hk _ _
        | panic v => exact hq _ _ _
      | pan v => exact hq _ _ _ h
      | any l => exact fun p hp => hk _ _ (h p hp)
theorem wops_mono {P : Program} {N : Nat} {ops : List Oper} {Q Q' : AQ} (hq : ∀ x e S, Q x e S → Q' x e S) : ∀ {rest : List Oper} {env : Env} {S : St}, WOps P N ops Q rest env S → WOps P N ops Q' rest env S
  | [], _, _, h => hq _ _ _ h
  | o :: rest, _, _, h => ⟨h.1, guardK_mono h.2 (fun _ _ => wops_mono hq) hq⟩
theorem guardK_cut {P : Program} {N : Nat} {ops rest : List Oper} {next : Env → St → Prop} {Q : AQ} {o : Oper} {env : Env} {S : St} {b : Option Bool} (M : Env → St → Prop)
    (h : guardK P (WOps P N ops (thenX M Q) rest) (thenX M Q) o env S b) (hn : ∀ e S, M e S → next e S) : guardK P (WOps P N ops (thenX next Q) rest) (thenX next Q) o env S b := by
  have hq : ∀ x e S, thenX M Q x e S → thenX next Q x e S := fun x e S h => by
    cases x with
    | normal => exact hn _ _ h
    | _ => exact h
  exact guardK_mono h (fun _ _ => wops_mono hq) hq
theorem condK_mono {A A' C C' : Env → St → Prop} {env : Env} {S : St} {b : Option AV} (h : condK A C env S b) (ha : ∀ e S, A e S → A' e S) (hc : ∀ e S, C e S → C' e S) : condK A' C' env S b := by
  unfold condK at *
  split at h
  · exact ha _ _ h
  · exact hc _ _ h
  · exact h.elim
theorem wcode_mono {P : Program} {N : Nat} : ∀ {c : Code} {Q Q' : AQ} {env : Env} {S : St}, WCode P N c Q env S → (∀ x e S, Q x e S → Q' x e S) → WCode P N c Q' env S
  | .skip, _, _, _, _, h, hq => hq _ _ _ h
  | .region id ops false, _, _, _, _, h, hq => wops_mono hq h
  | .region id ops true, _, _, _, _, h, hq => W.mono h hq
  | .seq x y, _, _, _, _, h, hq => wcode_mono (c := x) h fun z e S hz => by
      cases z with
      | normal => exact wcode_mono (c := y) hz hq
      | _ => exact hq _ _ _ hz
  | .cond c x y, _, _, _, _, h, hq => condK_mono h (fun _ _ h => wcode_mono (c := x) h hq) (fun _ _ h => wcode_mono (c := y) h hq)
  | .block id c, Q, Q', _, _, h, hq => wcode_mono (c := c) h fun z e S hz => by
      cases z with
      | exit j =>
        simp only [blockX] at *
        split at hz
        · rw [if_pos ‹_›]; exact hq _ _ _ hz
        · rw [if_neg ‹_›]; exact hq _ _ _ hz
      | _ => exact hq _ _ _ hz
  | .loop c, _, _, _, _, h, hq => WLoop.mono h hq
  | .exit id, _, _, _, _, h, hq => hq _ _ _ h
  | .ret, _, _, _, _, h, hq => hq _ _ _ h
  | .rangeFunc _ _ _ _, _, _, _, _, h, _ => h.elim
  | .scope _, _, _, _, _, h, _ => h.elim
  | .label _, _, _, _, _, h, _ => h.elim
  | .goto _, _, _, _, _, h, _ => h.elim
  | .refuse _, _, _, _, _, h, _ => h.elim
theorem thenX_cut {M next : Env → St → Prop} {Q : AQ} (hn : ∀ e S, M e S → next e S) : ∀ x e S, thenX M Q x e S → thenX next Q x e S := fun x e S h => by
  cases x with
  | normal => exact hn _ _ h
  | _ => exact h
theorem condK_cut {P : Program} {N : Nat} {x y : Code} {next : Env → St → Prop} {Q : AQ} {env : Env} {S : St} {b : Option AV} (M : Env → St → Prop)
    (h : condK (WCode P N x (thenX M Q)) (WCode P N y (thenX M Q)) env S b) (hn : ∀ e S, M e S → next e S) : condK (WCode P N x (thenX next Q)) (WCode P N y (thenX next Q)) env S b :=
  condK_mono h (fun _ _ h => wcode_mono h (thenX_cut hn)) (fun _ _ h => wcode_mono h (thenX_cut hn))
theorem wdraw_cut {P : Program} {N id : Nat} {ops : Array Oper} {next : Env → St → Prop} {Q : AQ} {env : Env} {S : St} (M : Env → St → Prop) (h : WDraw P N id ops (thenX M Q) env S) (hn : ∀ e S, M e S → next e S) :
    WDraw P N id ops (thenX next Q) env S := W.mono h (thenX_cut hn)
theorem wloop_meas {P : Program} {N : Nat} {c : Code} {Q : AQ} (I : Nat → Env → St → Prop) (h : ∀ n e S, I n e S → WCode P N c (thenX (fun e' S' => ∃ m, m < n ∧ I m e' S') Q) e S) :
    ∀ n e S, I n e S → WLoop P N c Q e S := by
  intro n
  induction n using Nat.strongRecOn with
  | _ n ih =>
    intro e S hI
    refine wloop_unfold ((wcode_sound (h n e S hI)).mono fun x e' S' hx => ?_)
    cases x with
    | normal =>
      obtain ⟨m, hm, hI'⟩ := hx
      exact ih m hm e' S' hI'
    | _ => exact hx
theorem ne_up1 (n : Nat) : (n + 1 = n) = False := by simp
theorem ne_dn1 (n : Nat) : (n = n + 1) = False := by simp
theorem ne_up2 (n : Nat) : (n + 2 = n) = False := by simp
theorem ne_dn2 (n : Nat) : (n = n + 2) = False := by simp
theorem ne_up3 (n : Nat) : (n + 3 = n) = False := by simp
theorem ne_dn3 (n : Nat) : (n = n + 3) = False := by simp
theorem ne_up4 (n : Nat) : (n + 4 = n) = False := by simp
theorem ne_dn4 (n : Nat) : (n = n + 4) = False := by simp
theorem ne_up5 (n : Nat) : (n + 5 = n) = False := by simp
theorem ne_dn5 (n : Nat) : (n = n + 5) = False := by simp
theorem ne_up6 (n : Nat) : (n + 6 = n) = False := by simp
theorem ne_dn6 (n : Nat) : (n = n + 6) = False := by simp
theorem put_put (S : St) (b : Nat) (o o' : Ob) : (S.put b o).put b o' = S.put b o' := by
  refine St.ext rfl (fun b' => ?_) rfl rfl
  simp only [St.put]
  cases Nat.beq b b' <;> rfl
theorem put_new (S : St) (o o' : Ob) : (S.new o).put S.next o' = S.new o' := by
  refine St.ext rfl (fun b' => ?_) rfl rfl
  simp only [St.put, St.new]
  cases Nat.beq S.next b' <;> rfl
theorem tmod_pos (n m : Int) (h : 0 ≤ n) : Int.tmod n m = n % m := Int.tmod_eq_emod_of_nonneg h
theorem tdiv_pos (n m : Int) (h : 0 ≤ n) : Int.tdiv n m = n / m := Int.tdiv_eq_ediv_of_nonneg h
theorem allSize_strs (l : List (List UInt8)) : allSize 1 (l.map .str) = true := by
  induction l with
  | nil => rfl
  | cons x r ih => simp [allSize, ih, FV.cells]
structure Fwd (S S' : St) : Prop where
  next : S.next ≤ S'.next
  ok : PopOk S.next S'
  pop : S'.pop S.next = S
theorem Fwd.refl {S : St} (h : Shut S) : Fwd S S := ⟨Nat.le_refl _, h.2, pop_self h.1⟩
theorem Fwd.new {S S' : St} (h : Fwd S S') (o : Ob) : Fwd S (S'.new o) :=
  ⟨by have := h.next; rw [next_new]; omega, popOk_new h.next h.ok, by rw [pop_new h.next, h.pop]⟩
theorem Fwd.put {S S' : St} (h : Fwd S S') {b : Nat} (hb : S.next ≤ b) (o : Ob) : Fwd S (S'.put b o) :=
  ⟨h.next, popOk_put_ge hb h.ok, by rw [pop_put hb, h.pop]⟩
theorem ends_fwd {P : Program} {R : CX → St → Prop} {v : AV} {S S' : St} (h : Fwd S S') (hv : v.under S.next 4 = true) (hR : R (.ret v) S) : ends P S.next R v S' :=
  ends_popped hv h.ok h.pop hR
theorem ends_fwd_row {P : Program} {R : CX → St → Prop} {S S' : St} {b off len s : Nat} {full : Bool} {cs : List AV} {ro : Nat} {T : TypeId} {ag : Bool} {l : List FV} (h : Fwd S S') (hg : S'.get b = some (.blk cs ro T)) (hag : isAggT P T = some ag)
    (hsz : szT P T = some s) (hl : allPure cs = some l) (hc : off + len * s ≤ cs.length) (h1 : ag = false → s = 1) (hb : S.next ≤ b)
    (hR : R (.ret (.c (.sl (unflat ag s len (l.drop off))))) S) : ends P S.next R (.sl b off len s full) S' :=
  ends_freeze (freeze_row hg hag hsz hl hc h1) rfl (popOk_put_ge hb h.ok) (by rw [pop_put hb, h.pop]; exact hR)
end Go.Abs

namespace Go.Abs
open Go.RowKit
def Gh.know (G : Gh) (g0 : Nat) (C : Array Value) : Gh := { G with F := fun g o => if g = g0 then C[o]? else G.F g o }
theorem cell_cells {w : World} {g : Nat} {C : Array Value} {T : TypeId} {fr : Nat × Nat} (h : w.heap[g]? = some (.cells C T fr)) (o : Nat) : w.cell? ⟨g, o, none⟩ = C[o]? := by
  unfold World.cell?
  simp only [h]
  rfl
theorem inv_know {G : Gh} {S : St} {w : World} (h : Inv G S w) {g0 : Nat} {C : Array Value} {T : TypeId} {fr : Nat × Nat} (hC : w.heap[g0]? = some (.cells C T fr)) (hn : ¬ Own G S g0) :
    Inv (G.know g0 C) S w ∧ Ext G S w (G.know g0 C) S w := by
  have hle : G.le (G.know g0 C) := by
    refine ⟨fun g o v hv => ?_, fun _ _ h => h, fun _ _ h => h⟩
    show (if g = g0 then C[o]? else G.F g o) = some v
    split
    · rename_i e
      subst e
      rw [← cell_cells hC o]
      exact h.cells _ _ _ hv
    · exact hv
  have hF : ∀ g, g ≠ g0 → ∀ o v, (G.know g0 C).F g o = some v → G.F g o = some v := by
    intro g hg o v hv
    have hv' : (if g = g0 then C[o]? else G.F g o) = some v := hv
    rwa [if_neg hg] at hv'
  have hob : ∀ b ob B, S.get b = some ob → ob.live = true → G.ρ b = some B → B.g ≠ g0 := fun b ob B h1 h2 h3 e => hn (.inl ⟨b, ob, B, h1, h2, h3, e⟩)
  refine inv_and h rfl ⟨⟨h.wf, ?_, ?_, h.apart, ?_, h.tags, h.nodup, h.fresh, h.born⟩,
    ⟨hle, Nat.le_refl _, Nat.le_refl _, fun _ _ _ => rfl, fun g ho => .inl ho, rfl, rfl, rfl⟩⟩
  · intro g o v hv
    by_cases e : g = g0
    · subst e
      have hv' : (if g = g then C[o]? else G.F g o) = some v := hv
      rw [if_pos rfl] at hv'
      rw [cell_cells hC o]; exact hv'
    · exact h.cells _ _ _ (hF g e o v hv)
  · intro b ob hb hl
    obtain ⟨B, h1, h2⟩ := h.obs b ob hb hl
    exact ⟨B, h1, h2.keep hle (hF _ (hob b ob B hb hl h1)) rfl⟩
  · intro t ht
    obtain ⟨g, st, en, s, k1, k2, k3, k4⟩ := h.spare t ht
    have hg : g ≠ g0 := fun e => hn (.inr ⟨t, ht, (st, en, s), by rw [k1, e]⟩)
    exact ⟨g, st, en, s, k1, k2, fun j v hj => k3 j v (hF g hg j v hj), k4⟩
theorem wc_calls' {P : Program} {f : FuncId} {args : List AV} {v : AV} {S : St} (hrun : ∀ vals w, Sem.run P (callFunc f vals) w = .ok (.enter f vals) w)
    (h : ∀ G (vals : List Value) w, RelL G args vals → Inv G S w → Calls P f vals.toArray w fun e w' => ∃ x G', e = .returned x ∧ RelA G' v x ∧ Inv G' S w' ∧ Ext G S w G' S w') : WC P f args (Is v S) S := by
  intro G vals w hr hI
  unfold Upon
  rw [hrun]
  refine Calls.mono (h G vals w hr hI) ?_
  rintro e w' ⟨x, G', rfl, hx, k1, k2⟩
  exact ⟨.ret v, S, G', ⟨rfl, rfl⟩, hx, k1, k2⟩
theorem own_lt {G : Gh} {S : St} {w : World} (h : Inv G S w) {g : Nat} (ho : Own G S g) : g < w.heap.size := by
  rcases ho with ⟨b, ob, B, h1, h2, h3, rfl⟩ | ⟨t, ht, x, hx⟩
  · exact (h.born b B h3).1
  · obtain ⟨g', st, en, s, k1, ⟨C, T, lo, hi, k2, k3⟩, k4⟩ := h.spare t ht
    rw [k1] at hx
    cases hx
    exact (Array.getElem?_eq_some_iff.1 k2).1
theorem flatF_strs (l : List (List UInt8)) : flatF (l.map .str) = l.map .str := by
  induction l with
  | nil => rfl
  | cons x r ih => simp [flatF, FV.cells, ih]
theorem row_of_alloc {G : Gh} {S : St} {w : World} (h : Inv G S w) (l : List ByteArray) (T : TypeId) (n : Nat) (hn : n = l.length) :
    ∃ G', RelA G' (.c (.sl ((l.map (·.data.toList)).map .str))) (.slice (some ⟨w.heap.size, 0, none⟩) n n) ∧ Inv G' S (w.alloc (.cells (l.map Value.string).toArray T)) ∧
      Ext G S w G' S (w.alloc (.cells (l.map Value.string).toArray T)) := by
  subst hn
  have hb : Below w.heap.size w (w.alloc (.cells (l.map Value.string).toArray T)) := (Below.refl _ _).alloc (Nat.le_refl _) _
  obtain ⟨k1, k2⟩ := inv_below h hb
  have hC : (w.alloc (.cells (l.map Value.string).toArray T)).heap[w.heap.size]? = some (.cells (l.map Value.string).toArray T (0, 0)) := by
    show (w.heap.push _)[w.heap.size]? = _
    simp
  have hno : ¬ Own G S w.heap.size := fun ho => by have := own_lt h ho; omega
  obtain ⟨k3, k4⟩ := inv_know k1 hC hno
  refine ⟨_, ?_, k3, k2.trans k4⟩
  have hlen : ((l.map (·.data.toList)).map FV.str).length = l.length := by simp
  rw [← hlen]
  refine .c (.sl _ _ _ 1 _ (fun i => (l.map Value.string).getD i (.bool false)) ?_ (Nat.le_refl _) ?_ ?_ ?_)
  · intro x hx
    obtain ⟨y, _, rfl⟩ := List.mem_map.1 hx
    rfl
  · intro i a ha
    rw [flatF_strs] at ha
    have hi : i < l.length := by have := (List.getElem?_eq_some_iff.1 ha).1; simpa using this
    show (if w.heap.size = w.heap.size then ((l.map Value.string).toArray)[0 + i]? else _) = _
    rw [if_pos rfl]
    simp [hi]
  · intro i a ha
    rw [flatF_strs, List.getElem?_map, List.getElem?_map] at ha
    cases hl : l[i]? with
    | none => rw [hl] at ha; cases ha
    | some x =>
      rw [hl] at ha
      simp only [Option.map_some, Option.some.injEq] at ha
      subst ha
      simp only [List.getD_eq_getElem?_getD, List.getElem?_map, hl, Option.map_some, Option.getD_some]
      exact .str x
  · intro i a ha
    rw [flatF_strs] at ha
    have hi : i < l.length := by have := (List.getElem?_eq_some_iff.1 ha).1; simpa using this
    simp only [List.getD_eq_getElem?_getD, List.getElem?_map, List.getElem?_eq_getElem hi, Option.map_some, Option.getD_some]
    rfl
theorem known_cell {G : Gh} {S : St} {w : World} (h : Inv G S w) {g : Nat} {l : List Value} (hk : (g, l) ∈ S.known) {o : Nat} {v : Value} (ho : l[o]? = some v) : w.cell? ⟨g, o, none⟩ = some v := by
  obtain ⟨⟨T, fr, h1⟩, _⟩ := h.known _ hk
  rw [cell_cells h1]
  simpa using ho
end Go.Abs

namespace Go.Abs
inductive Tr (α : Type) where
  | nil
  | node (v : Option α) (l r : Tr α)
def Tr.get {α : Type} : Tr α → Nat → Option α
  | .nil, _ => none
  | .node v l r, k => bif Nat.beq k 0 then v else bif Nat.beq (k % 2) 1 then l.get (k / 2) else r.get (k / 2 - 1)
def Tr.set {α : Type} : Nat → Tr α → Nat → α → Option (Tr α)
  | 0, _, _, _ => none
  | d + 1, .nil, k, x => bif Nat.beq k 0 then some (.node (some x) .nil .nil) else
      bif Nat.beq (k % 2) 1 then (match Tr.set d .nil (k / 2) x with | some t => some (.node none t .nil) | none => none)
      else (match Tr.set d .nil (k / 2 - 1) x with | some t => some (.node none .nil t) | none => none)
  | d + 1, .node v l r, k, x => bif Nat.beq k 0 then some (.node (some x) l r) else
      bif Nat.beq (k % 2) 1 then (match Tr.set d l (k / 2) x with | some t => some (.node v t r) | none => none)
      else (match Tr.set d r (k / 2 - 1) x with | some t => some (.node v l t) | none => none)
abbrev EE := Tr AV
def EE.toEnv (e : EE) : Env := fun t => match e.get t with | some v => v | none => .undef
structure ES where
  next : Nat
  lo : Nat
  mem : Tr Ob
  known : List (Nat × List Value) := []
def ES.toSt (s : ES) : St := { next := s.next, get := fun b => bif Nat.blt b s.next then s.mem.get b else none, spare := [], known := s.known }
def ES.cmd (s : ES) : Cmd → Option ES
  | .new o => match Tr.set 32 s.mem s.next o with | some m => some { s with next := s.next + 1, mem := m } | none => none
  | .put b o => bif Nat.blt b s.next then (match Tr.set 32 s.mem b o with | some m => some { s with lo := bif Nat.blt b s.lo then b else s.lo, mem := m } | none => none) else none
  | .mark _ => none
  | .take _ => none
def ES.run (s : ES) : List Cmd → Option ES
  | [] => some s
  | c :: r => match s.cmd c with | some s' => s'.run r | none => none
def EE.put (N : Nat) (e : EE) (d : Option Tmp) (v : AV) : Option EE :=
  match d with
  | none => some e
  | some t => bif Nat.blt t N then Tr.set 16 e t v else none
abbrev Caller := FuncId → List AV → ES → Option (CX × ES)
inductive OR where
  | on (e : EE) (s : ES)
  | pan (v : AV) (e : EE) (s : ES)
def orPan (N : Nat) (d : Option Tmp) (v : AV) (e : EE) (s : ES) : Option OR :=
  match d with
  | none => some (.pan v e s)
  | some t => bif Nat.blt t N then some (.pan v e s) else none
def orCall (N : Nat) (d : Option Tmp) (e : EE) : Option (CX × ES) → Option OR
  | some (.ret v, s') => (match EE.put N e d v with | some e' => some (.on e' s') | none => none)
  | some (.panic v, s') => orPan N d v e s'
  | none => none
def orVal (N : Nat) (d : Option Tmp) (e : EE) (v : AV) : Option ES → Option OR
  | some s' => (match EE.put N e d v with | some e' => some (.on e' s') | none => none)
  | none => none
def orRes (call : Caller) (N : Nat) (d : Option Tmp) (e : EE) (s : ES) : Option Res → Option OR
  | some (.val v cm) => orVal N d e v (s.run cm)
  | some (.skip cm) => orVal N d e (.tup []) (s.run cm)
  | some (.call f args) => orCall N d e (call f args s)
  | some (.pan v) => orPan N d v e s
  | some (.any [p]) => orVal N d e p.1 (s.run p.2)
  | _ => none
def orOp (P : Program) (call : Caller) (N : Nat) (o : Oper) (e : EE) (s : ES) : Option Bool → Option OR
  | some true => orRes call N o.dst e s (evalOp P o e.toEnv s.toSt)
  | some false => orVal N o.dst e (.tup []) (some s)
  | none => none
def xOps (P : Program) (call : Caller) (N : Nat) (ops : List Oper) : List Oper → EE → ES → Option OR
  | [], e, s => some (.on e s)
  | o :: rest, e, s =>
    match orOp P call N o e s (wantedA ops e.toEnv o) with
    | some (.on e' s') => xOps P call N ops rest e' s'
    | r => r
mutual
def FV.beq : FV → FV → Bool
  | .bool a, .bool b => a == b
  | .int k a, .int k' b => decide (k = k') && decide (a = b)
  | .str a, .str b => a == b
  | .nilp, .nilp => true
  | .nils, .nils => true
  | .nilm, .nilm => true
  | .nilf, .nilf => true
  | .nili, .nili => true
  | .fn f, .fn g => Nat.beq f g
  | .sl a, .sl b => FV.beqs a b
  | .agg a, .agg b => FV.beqs a b
  | .iface t a, .iface u b => Nat.beq t u && FV.beq a b
  | _, _ => false
def FV.beqs : List FV → List FV → Bool
  | [], [] => true
  | x :: r, y :: q => FV.beq x y && FV.beqs r q
  | _, _ => false
end
mutual
def AV.beq : AV → AV → Bool
  | .c a, .c b => FV.beq a b
  | .ref b o, .ref b' o' => Nat.beq b b' && Nat.beq o o'
  | .fref e o, .fref e' o' => FV.beq e e' && Nat.beq o o'
  | .gref a, .gref b => Nat.beq a b
  | .sl b o l s f, .sl b' o' l' s' f' => Nat.beq b b' && Nat.beq o o' && Nat.beq l l' && Nat.beq s s' && (f == f')
  | .fz t xs, .fz u ys => Nat.beq t u && FV.beqs xs ys
  | .map a, .map b => Nat.beq a b
  | .iter a, .iter b => Nat.beq a b
  | .clo f a b, .clo g a' b' => Nat.beq f g && AV.beqs a a' && AV.beqs b b'
  | .iface t a, .iface u b => Nat.beq t u && AV.beq a b
  | .agg a, .agg b => AV.beqs a b
  | .tup a, .tup b => AV.beqs a b
  | .undef, .undef => true
  | _, _ => false
def AV.beqs : List AV → List AV → Bool
  | [], [] => true
  | x :: r, y :: q => AV.beq x y && AV.beqs r q
  | _, _ => false
end
def xStabVal (e : EE) (d : Option Tmp) : Option Res → Bool
  | some (.val v []) => (match d with | some t => AV.beq v (e.toEnv.get t) | none => false)
  | _ => false
def xStabOne (P : Program) (ops : List Oper) (e : EE) (s : ES) (o : Oper) : Option Bool → Bool
  | some false => o.dst.isSome
  | some true => xStabVal e o.dst (evalOp P o e.toEnv s.toSt)
  | none => xStabVal e o.dst (evalOp P o e.toEnv s.toSt)
def xStab (P : Program) (ops : List Oper) (e : EE) (s : ES) : List Nat → Bool
  | [] => true
  | i :: r => (match ops[i]? with | some o => xStabOne P ops e s o (wantedA ops e.toEnv o) | none => false) && xStab P ops e s r
def xQuiet (N : Nat) (d : Option Tmp) (e : EE) (s : ES) : Option (CX × ES) → Option OR
  | some (.ret v, s') => bif Nat.beq s'.next s.next && Nat.ble s.next s'.lo then orVal N d e v (some s) else none
  | _ => none
def xFloat (call : Caller) (N : Nat) (d : Option Tmp) (e : EE) (s : ES) : Option Res → Option OR
  | some (.val v []) => orVal N d e v (some s)
  | some (.call f args) => xQuiet N d e s (call f args { s with lo := s.next })
  | _ => none
def xFloatB (P : Program) (call : Caller) (N : Nat) (o : Oper) (e : EE) (s : ES) : Option Bool → Option OR
  | some true => xFloat call N o.dst e s (evalOp P o e.toEnv s.toSt)
  | some false => orVal N o.dst e (.tup []) (some s)
  | none => none
def xChk (P : Program) (ops : List Oper) (chk : List Nat) : Option OR → Option OR
  | some (.on e s) => bif xStab P ops e s chk then some (.on e s) else none
  | _ => none
def xPlan (P : Program) (call : Caller) (N : Nat) (ops : List Oper) : Plan → EE → ES → Option OR
  | .done, e, s => some (.on e s)
  | .op i next, e, s =>
    match ops[i]? with
    | none => none
    | some o => (match xFloatB P call N o e s (wantedA ops e.toEnv o) with | some (.on e' s') => xPlan P call N ops next e' s' | _ => none)
  | .step i chk next .done, e, s =>
    match ops[i]? with
    | none => none
    | some o => (match xChk P ops chk (orOp P call N o e s (wantedA ops e.toEnv o)) with | some (.on e' s') => xPlan P call N ops next e' s' | _ => none)
  | .step _ _ _ _, _, _ => none
abbrev XR := Option (AX × EE × ES)
def ofOR : Option OR → XR
  | some (.on e s) => some (.normal, e, s)
  | some (.pan v e s) => some (.panic v, e, s)
  | none => none
def xLoop (body : EE → ES → XR) : Nat → EE → ES → XR
  | 0, _, _ => none
  | n + 1, e, s =>
    match body e s with
    | some (.normal, e', s') => xLoop body n e' s'
    | r => r
abbrev Pl := Nat → Option (List Nat × Plan)
def xCode (P : Program) (pl : Pl) (call : Caller) (N : Nat) (fuel : Nat) : Code → EE → ES → XR
  | .skip, e, s => some (.normal, e, s)
  | .region _ ops false, e, s => ofOR (xOps P call N ops.toList ops.toList e s)
  | .region id ops true, e, s => (match pl id with | some p => ofOR (xPlan P call N ops.toList p.2 e s) | none => none)
  | .seq x y, e, s =>
    match xCode P pl call N fuel x e s with
    | some (.normal, e', s') => xCode P pl call N fuel y e' s'
    | r => r
  | .cond c x y, e, s =>
    match opnd e.toEnv c with
    | some (.c (.bool true)) => xCode P pl call N fuel x e s
    | some (.c (.bool false)) => xCode P pl call N fuel y e s
    | _ => none
  | .block id c, e, s =>
    match xCode P pl call N fuel c e s with
    | some (.exit j, e', s') => bif Nat.beq j id then some (.normal, e', s') else some (.exit j, e', s')
    | r => r
  | .loop c, e, s => xLoop (xCode P pl call N fuel c) fuel e s
  | .exit id, e, s => some (.exit id, e, s)
  | .ret, e, s => some (.ret, e, s)
  | _, _, _ => none
def codeOk (pl : Pl) : Code → Bool
  | .region id ops true => (match pl id with | some p => pairsOk ops p.1 && okPlan ops p.1 [] [] p.2 | none => true)
  | .seq x y => codeOk pl x && codeOk pl y
  | .cond _ x y => codeOk pl x && codeOk pl y
  | .block _ c => codeOk pl c
  | .loop c => codeOk pl c
  | _ => true
def argsT : List AV → Nat → EE → Option EE
  | [], _, e => some e
  | v :: r, i, e => match Tr.set 16 e i v with | some e' => argsT r (i + 1) e' | none => none
def oneOrTup : List AV → AV
  | [v] => v
  | l => .tup l
def xEnd (s0 : ES) (v : AV) (s : ES) : CX × ES :=
  bif Nat.ble s0.next s.lo && v.under s0.next 4 then (.ret v, s0) else (.ret v, { s with lo := bif Nat.blt s.lo s0.lo then s.lo else s0.lo })
def xBody (P : Program) (rs : List ResultVar) (s0 : ES) : XR → Option (CX × ES)
  | some (.normal, e, s) => (match resAs P e.toEnv s.toSt rs with | some l => some (xEnd s0 (oneOrTup l) s) | none => none)
  | some (.ret, e, s) => (match resAs P e.toEnv s.toSt rs with | some l => some (xEnd s0 (oneOrTup l) s) | none => none)
  | some (.panic v, _, s) => some (.panic v, { s with lo := bif Nat.blt s.lo s0.lo then s.lo else s0.lo })
  | _ => none
def xFn (P : Program) (pl : Pl) (call : Caller) (fuel : Nat) (fn : Func) (args : List AV) (s : ES) : Option Code → Option (CX × ES)
  | some c => bif Nat.ble args.length fn.ntmps && codeOk pl c && !(fn.name == "runtime.NumGoroutine") then
      (match argsT args 0 .nil with
       | some e => xBody P fn.results.toList s (xCode P pl call fn.ntmps fuel c e { s with lo := s.next })
       | none => none) else none
  | none => none
inductive Ext1 where
  | no
  | yes (r : Option (CX × ES))
def xCallD (P : Program) (pl : Nat → Pl) (call : Caller) (fuel : Nat) (f : FuncId) (args : List AV) (s : ES) : Ext1 → Option (CX × ES)
  | .yes r => r
  | .no => (match P.funcs[f]? with | some fn => xFn P (pl f) call fuel fn args s fn.body | none => none)
def xCall (P : Program) (pl : Nat → Pl) (ext : FuncId → List AV → ES → Ext1) (fuel : Nat) : Nat → Caller
  | 0, _, _, _ => none
  | d + 1, f, args, s => xCallD P pl (xCall P pl ext fuel d) fuel f args s (ext f args s)
end Go.Abs

namespace Go.Abs
theorem bif_beq {α : Sort _} (a b : Nat) (x y : α) : (bif Nat.beq a b then x else y) = if a = b then x else y := by
  by_cases h : a = b
  · subst h; simp
  · simp [beq_ne h, h]
theorem Tr.get_nil {α : Type} (k : Nat) : (Tr.nil : Tr α).get k = none := rfl
theorem Tr.get_node {α : Type} (v : Option α) (l r : Tr α) (k : Nat) : (Tr.node v l r).get k = if k = 0 then v else if k % 2 = 1 then l.get (k / 2) else r.get (k / 2 - 1) := by
  simp only [Tr.get, bif_beq]
theorem Tr.get_set {α : Type} : ∀ {d : Nat} {t t' : Tr α} {k : Nat} {x : α}, Tr.set d t k x = some t' → ∀ k', t'.get k' = if k = k' then some x else t.get k'
  | 0, _, _, _, _, h, _ => by simp [Tr.set] at h
  | d + 1, .nil, t', k, x, h, k' => by
    simp only [Tr.set, bif_beq] at h
    split at h
    · cases h; subst k
      by_cases h' : k' = 0
      · subst h'; simp [Tr.get_node]
      · have : ¬ 0 = k' := fun e => h' e.symm
        simp [Tr.get_node, h', this, Tr.get_nil]
    · rename_i hk
      split at h
      · split at h
        · rename_i t1 h1
          cases h
          have ih := Tr.get_set h1
          rw [Tr.get_node, Tr.get_nil]
          by_cases h' : k' = 0
          · subst h'; simp [hk, Tr.get_nil]
          · simp only [h', if_false, ih, Tr.get_nil]
            split
            · by_cases e : k = k'
              · subst e; simp
              · have : ¬ k / 2 = k' / 2 := by omega
                simp [e, this]
            · have : ¬ k = k' := by rintro rfl; omega
              simp [this]
        · cases h
      · split at h
        · rename_i t1 h1
          cases h
          have ih := Tr.get_set h1
          rw [Tr.get_node, Tr.get_nil]
          by_cases h' : k' = 0
          · subst h'; simp [hk, Tr.get_nil]
          · simp only [h', if_false, ih, Tr.get_nil]
            split
            · have : ¬ k = k' := by rintro rfl; omega
              simp [this]
            · by_cases e : k = k'
              · subst e; simp
              · have : ¬ k / 2 - 1 = k' / 2 - 1 := by omega
                simp [e, this]
        · cases h
  | d + 1, .node v l r, t', k, x, h, k' => by
    simp only [Tr.set, bif_beq] at h
    split at h
    · cases h; subst k
      by_cases h' : k' = 0
      · subst h'; simp [Tr.get_node]
      · have : ¬ 0 = k' := fun e => h' e.symm
        simp [Tr.get_node, h', this]
    · rename_i hk
      split at h
      · split at h
        · rename_i t1 h1
          cases h
          have ih := Tr.get_set h1
          rw [Tr.get_node, Tr.get_node]
          by_cases h' : k' = 0
          · subst h'; simp [hk]
          · simp only [h', if_false, ih]
            split
            · by_cases e : k = k'
              · subst e; simp
              · have : ¬ k / 2 = k' / 2 := by omega
                simp [e, this]
            · have : ¬ k = k' := by rintro rfl; omega
              simp [this]
        · cases h
      · split at h
        · rename_i t1 h1
          cases h
          have ih := Tr.get_set h1
          rw [Tr.get_node, Tr.get_node]
          by_cases h' : k' = 0
          · subst h'; simp [hk]
          · simp only [h', if_false, ih]
            split
            · have : ¬ k = k' := by rintro rfl; omega
              simp [this]
            · by_cases e : k = k'
              · subst e; simp
              · have : ¬ k / 2 - 1 = k' / 2 - 1 := by omega
                simp [e, this]
        · cases h
theorem toEnv_set {d : Nat} {e e' : EE} {t : Nat} {v : AV} (h : Tr.set d e t v = some e') : e'.toEnv = e.toEnv.set t v := by
  funext u
  simp only [EE.toEnv, Env.set, bif_beq, Tr.get_set h]
  by_cases hu : t = u <;> simp [hu]
theorem put_spec {N : Nat} {e e' : EE} {d : Option Tmp} {v : AV} (h : EE.put N e d v = some e') : dstOk N d ∧ e'.toEnv = e.toEnv.setO d v := by
  cases d with
  | none => cases h; exact ⟨trivial, rfl⟩
  | some t =>
    simp only [EE.put] at h
    cases hb : Nat.blt t N with
    | false => rw [hb] at h; cases h
    | true => rw [hb] at h; exact ⟨blt_lt hb, toEnv_set h⟩
theorem argsT_spec : ∀ {l : List AV} {i : Nat} {e e' : EE}, argsT l i e = some e' → ∀ t, e'.toEnv t = if i ≤ t ∧ t < i + l.length then l.getD (t - i) .undef else e.toEnv t
  | [], i, e, e', h, t => by
    cases h
    have : ¬ (i ≤ t ∧ t < i + ([] : List AV).length) := by simp
    rw [if_neg this]
  | v :: r, i, e, e', h, t => by
    simp only [argsT] at h
    split at h
    · rename_i e1 h1
      rw [argsT_spec h t, toEnv_set h1]
      simp only [Env.set, bif_beq, List.length_cons]
      by_cases h2 : i + 1 ≤ t ∧ t < i + 1 + r.length
      · rw [if_pos h2, if_pos (by omega)]
        have : t - i = (t - (i + 1)) + 1 := by omega
        rw [this]; simp
      · rw [if_neg h2]
        by_cases h3 : i = t
        · subst h3; simp
        · rw [if_neg h3, if_neg (by omega)]
    · cases h
theorem argsT_env {l : List AV} {e : EE} (h : argsT l 0 .nil = some e) : e.toEnv = envOf l 0 := by
  funext t
  rw [argsT_spec h t, envOf_get]
  rfl
structure Gr (s s' : ES) : Prop where
  next : s.next ≤ s'.next
  lo : s'.lo ≤ s.lo
  keep : ∀ b, b < s'.lo → b < s.next → s'.toSt.get b = s.toSt.get b
  known : s'.known = s.known
theorem Gr.refl (s : ES) : Gr s s := ⟨Nat.le_refl _, Nat.le_refl _, fun _ _ _ => rfl, rfl⟩
theorem Gr.trans {s s' s'' : ES} (h : Gr s s') (k : Gr s' s'') : Gr s s'' :=
  ⟨Nat.le_trans h.next k.next, Nat.le_trans k.lo h.lo, fun b h1 h2 => by
    rw [k.keep b h1 (Nat.lt_of_lt_of_le h2 h.next), h.keep b (Nat.lt_of_lt_of_le h1 k.lo) h2], k.known.trans h.known⟩
theorem es_get (s : ES) (b : Nat) : s.toSt.get b = if b < s.next then s.mem.get b else none := by
  simp only [ES.toSt]
  by_cases h : b < s.next
  · simp [blt_dec, h]
  · simp [blt_dec, h]
theorem es_wf (s : ES) : s.toSt.Wf := by
  intro b o h
  rw [es_get] at h
  split at h
  · assumption
  · cases h
theorem cmd_spec {s s' : ES} {c : Cmd} (h : s.cmd c = some s') : s'.toSt = s.toSt.cmd c ∧ Gr s s' := by
  cases c with
  | new o =>
    simp only [ES.cmd] at h
    split at h
    · rename_i m hm
      cases h
      refine ⟨St.ext rfl (fun b => ?_) rfl rfl, ⟨Nat.le_succ _, Nat.le_refl _, fun b h1 h2 => ?_, rfl⟩⟩
      · rw [es_get, Tr.get_set hm]
        show _ = (s.toSt.new o).get b
        rw [St.get_new, es_get]
        show (if b < s.next + 1 then _ else _) = if s.next = b then _ else _
        by_cases h1 : s.next = b
        · subst h1; simp
        · by_cases h2 : b < s.next
          · simp [h1, h2, Nat.lt_succ_of_lt h2]
          · simp [h1, h2, show ¬ b < s.next + 1 by omega]
      · rw [es_get, es_get, Tr.get_set hm]
        show (if b < s.next + 1 then _ else _) = _
        have : ¬ s.next = b := by omega
        simp [this, h2, Nat.lt_succ_of_lt h2]
    · cases h
  | put b o =>
    simp only [ES.cmd] at h
    cases hb : Nat.blt b s.next with
    | false => rw [hb] at h; cases h
    | true =>
      rw [hb] at h
      simp only [cond_true] at h
      have hlt := blt_lt hb
      split at h
      · rename_i m hm
        cases h
        refine ⟨St.ext rfl (fun x => ?_) rfl rfl, ⟨Nat.le_refl _, ?_, fun x h1 h2 => ?_, rfl⟩⟩
        · rw [es_get, Tr.get_set hm]
          show _ = (s.toSt.put b o).get x
          rw [St.get_put, es_get]
          by_cases h1 : b = x
          · subst h1; simp [hlt]
          · simp [h1]
        · show (bif Nat.blt b s.lo then b else s.lo) ≤ s.lo
          rw [blt_dec]
          by_cases h : b < s.lo
          · simp [h]; omega
          · simp [h]
        · rw [es_get, es_get, Tr.get_set hm]
          have h3 : x < (bif Nat.blt b s.lo then b else s.lo) := h1
          rw [blt_dec] at h3
          have : ¬ b = x := by
            rintro rfl
            by_cases h : b < s.lo
            · simp [h] at h3
            · simp [h] at h3
          simp [this]
      · cases h
  | mark b => cases h
  | take t => cases h
theorem run_spec : ∀ {cm : List Cmd} {s s' : ES}, s.run cm = some s' → s'.toSt = s.toSt.run cm ∧ Gr s s'
  | [], s, s', h => by cases h; exact ⟨rfl, .refl s⟩
  | c :: r, s, s', h => by
    simp only [ES.run] at h
    split at h
    · rename_i s1 h1
      obtain ⟨k1, k2⟩ := cmd_spec h1
      obtain ⟨k3, k4⟩ := run_spec h
      exact ⟨by rw [k3, k1]; rfl, k2.trans k4⟩
    · cases h
mutual
theorem FV.beq_eq : ∀ {a b : FV}, FV.beq a b = true → a = b
  | .bool a, b, h => by cases b <;> simp [FV.beq] at h; rw [h]
  | .int k a, b, h => by cases b <;> simp [FV.beq] at h; rw [h.1, h.2]
  | .str a, b, h => by cases b <;> simp [FV.beq] at h; rw [h]
  | .nilp, b, h => by cases b <;> simp [FV.beq] at h; rfl
  | .nils, b, h => by cases b <;> simp [FV.beq] at h; rfl
  | .nilm, b, h => by cases b <;> simp [FV.beq] at h; rfl
  | .nilf, b, h => by cases b <;> simp [FV.beq] at h; rfl
  | .nili, b, h => by cases b <;> simp [FV.beq] at h; rfl
  | .fn f, b, h => by cases b <;> simp [FV.beq] at h; rw [h]
  | .sl a, b, h => by cases b <;> simp [FV.beq] at h; rw [FV.beqs_eq h]
  | .agg a, b, h => by cases b <;> simp [FV.beq] at h; rw [FV.beqs_eq h]
  | .iface t a, b, h => by cases b <;> simp [FV.beq] at h; rw [h.1, FV.beq_eq h.2]
theorem FV.beqs_eq : ∀ {a b : List FV}, FV.beqs a b = true → a = b
  | [], b, h => by cases b <;> simp [FV.beqs] at h; rfl
  | x :: r, b, h => by
    cases b with
    | nil => simp [FV.beqs] at h
    | cons y q => simp [FV.beqs] at h; rw [FV.beq_eq h.1, FV.beqs_eq h.2]
end
mutual
theorem AV.beq_eq : ∀ {a b : AV}, AV.beq a b = true → a = b
  | .c a, b, h => by cases b <;> simp [AV.beq] at h; rw [FV.beq_eq h]
  | .ref x o, b, h => by cases b <;> simp [AV.beq] at h; rw [h.1, h.2]
  | .fref e o, b, h => by cases b <;> simp [AV.beq] at h; rw [FV.beq_eq h.1, h.2]
  | .gref a, b, h => by cases b <;> simp [AV.beq] at h; rw [h]
  | .sl x o l s f, b, h => by cases b <;> simp [AV.beq] at h; obtain ⟨⟨⟨⟨h1, h2⟩, h3⟩, h4⟩, h5⟩ := h; rw [h1, h2, h3, h4, h5]
  | .fz t xs, b, h => by cases b <;> simp [AV.beq] at h; rw [h.1, FV.beqs_eq h.2]
  | .map a, b, h => by cases b <;> simp [AV.beq] at h; rw [h]
  | .iter a, b, h => by cases b <;> simp [AV.beq] at h; rw [h]
  | .clo f x y, b, h => by cases b <;> simp [AV.beq] at h; rw [h.1.1, AV.beqs_eq h.1.2, AV.beqs_eq h.2]
  | .iface t a, b, h => by cases b <;> simp [AV.beq] at h; rw [h.1, AV.beq_eq h.2]
  | .agg a, b, h => by cases b <;> simp [AV.beq] at h; rw [AV.beqs_eq h]
  | .tup a, b, h => by cases b <;> simp [AV.beq] at h; rw [AV.beqs_eq h]
  | .undef, b, h => by cases b <;> simp [AV.beq] at h; rfl
theorem AV.beqs_eq : ∀ {a b : List AV}, AV.beqs a b = true → a = b
  | [], b, h => by cases b <;> simp [AV.beqs] at h; rfl
  | x :: r, b, h => by
    cases b with
    | nil => simp [AV.beqs] at h
    | cons y q => simp [AV.beqs] at h; rw [AV.beq_eq h.1, AV.beqs_eq h.2]
end
def At (x : AX) (e : EE) (s : ES) : AQ := fun y env T => y = x ∧ env = e.toEnv ∧ T = s.toSt
def atOR : OR → AQ
  | .on e s => At .normal e s
  | .pan v e s => At (.panic v) e s
def OR.st : OR → ES
  | .on _ s => s
  | .pan _ _ s => s
def CallerOk (P : Program) (call : Caller) : Prop :=
  ∀ f args s x s', call f args s = some (x, s') → WC P f args (fun y T => y = x ∧ T = s'.toSt) s.toSt ∧ Gr s s'
theorem orVal_spec {N : Nat} {d : Option Tmp} {e : EE} {v : AV} {s : ES} {cm : List Cmd} {r : OR} (h : orVal N d e v (s.run cm) = some r) :
    dstOk N d ∧ ∃ e' s', r = .on e' s' ∧ e'.toEnv = e.toEnv.setO d v ∧ s'.toSt = s.toSt.run cm ∧ Gr s s' := by
  unfold orVal at h
  split at h
  · rename_i s' hs
    obtain ⟨k1, k2⟩ := run_spec hs
    split at h
    · rename_i e' he
      cases h
      obtain ⟨k3, k4⟩ := put_spec he
      exact ⟨k3, e', s', rfl, k4, k1, k2⟩
    · cases h
  · cases h
theorem orVal_self {N : Nat} {d : Option Tmp} {e : EE} {v : AV} {s : ES} {r : OR} (h : orVal N d e v (some s) = some r) :
    dstOk N d ∧ ∃ e', r = .on e' s ∧ e'.toEnv = e.toEnv.setO d v := by
  unfold orVal at h
  simp only at h
  split at h
  · rename_i e' he
    cases h
    obtain ⟨k3, k4⟩ := put_spec he
    exact ⟨k3, e', rfl, k4⟩
  · cases h
theorem orPan_spec {N : Nat} {d : Option Tmp} {v : AV} {e : EE} {s : ES} {r : OR} (h : orPan N d v e s = some r) : dstOk N d ∧ r = .pan v e s := by
  unfold orPan at h
  cases d with
  | none => cases h; exact ⟨trivial, rfl⟩
  | some t =>
    simp only at h
    cases hb : Nat.blt t N with
    | false => rw [hb] at h; cases h
    | true => rw [hb] at h; cases h; exact ⟨blt_lt hb, rfl⟩
theorem orOp_spec {P : Program} {call : Caller} (hc : CallerOk P call) {N : Nat} {o : Oper} {e : EE} {s : ES} {w : Option Bool} {r : OR} (h : orOp P call N o e s w = some r) :
    Gr s r.st ∧ dstOk N o.dst ∧
    ∀ (K : Env → St → Prop) (Q : AQ), (∀ e' s', r = .on e' s' → K e'.toEnv s'.toSt) → (∀ v e' s', r = .pan v e' s' → Q (.panic v) e'.toEnv s'.toSt) → guardK P K Q o e.toEnv s.toSt w := by
  unfold orOp at h
  split at h
  ·
    show _ ∧ _ ∧ ∀ K Q, _ → _ → resK P K Q e.toEnv s.toSt o.dst (evalOp P o e.toEnv s.toSt)
    generalize evalOp P o e.toEnv s.toSt = res at h
    unfold orRes at h
    split at h
    · rename_i v cm
      obtain ⟨k1, e', s', rfl, k2, k3, k4⟩ := orVal_spec h
      refine ⟨k4, k1, fun K Q hK hQ => ?_⟩
      have := hK e' s' rfl
      rwa [k2, k3] at this
    · rename_i cm
      obtain ⟨k1, e', s', rfl, k2, k3, k4⟩ := orVal_spec h
      refine ⟨k4, k1, fun K Q hK hQ => ?_⟩
      have := hK e' s' rfl
      rwa [k2, k3] at this
    · rename_i f args
      unfold orCall at h
      split at h
      · rename_i v s' hcall
        obtain ⟨k1, k2⟩ := hc _ _ _ _ _ hcall
        split at h
        · rename_i e' he
          cases h
          obtain ⟨k3, k4⟩ := put_spec he
          refine ⟨k2, k3, fun K Q hK hQ => k1.mono ?_⟩
          rintro x S' ⟨rfl, rfl⟩
          have := hK e' s' rfl
          rwa [k4] at this
        · cases h
      · rename_i v s' hcall
        obtain ⟨k1, k2⟩ := hc _ _ _ _ _ hcall
        obtain ⟨k3, rfl⟩ := orPan_spec h
        refine ⟨k2, k3, fun K Q hK hQ => k1.mono ?_⟩
        rintro x S' ⟨rfl, rfl⟩
        exact hQ v e s' rfl
      · cases h
    · rename_i v
      obtain ⟨k3, rfl⟩ := orPan_spec h
      exact ⟨.refl s, k3, fun K Q hK hQ => hQ _ _ _ rfl⟩
    · rename_i p
      obtain ⟨k1, e', s', rfl, k2, k3, k4⟩ := orVal_spec h
      refine ⟨k4, k1, fun K Q hK hQ => ?_⟩
      intro q hq
      obtain rfl : q = p := by simpa using hq
      have := hK e' s' rfl
      rwa [k2, k3] at this
    · cases h
  · obtain ⟨k1, e', rfl, k2⟩ := orVal_self h
    refine ⟨.refl s, k1, fun K Q hK hQ => ?_⟩
    have := hK e' s rfl
    rw [k2] at this
    exact this
  · cases h
theorem xOps_spec {P : Program} {call : Caller} (hc : CallerOk P call) {N : Nat} {ops : List Oper} : ∀ {rest : List Oper} {e : EE} {s : ES} {r : OR}, xOps P call N ops rest e s = some r →
    WOps P N ops (atOR r) rest e.toEnv s.toSt ∧ Gr s r.st
  | [], e, s, r, h => by cases h; exact ⟨⟨rfl, rfl, rfl⟩, .refl s⟩
  | o :: rest, e, s, r, h => by
    simp only [xOps] at h
    split at h
    · rename_i e' s' ho
      obtain ⟨k1, k2, k3⟩ := orOp_spec hc ho
      obtain ⟨k4, k5⟩ := xOps_spec hc h
      refine ⟨⟨k2, k3 _ _ (fun e1 s1 h1 => ?_) (fun v e1 s1 h1 => by cases h1)⟩, k1.trans k5⟩
      cases h1
      exact k4
    · rename_i r' hr'
      cases hr : orOp P call N o e s (wantedA ops e.toEnv o) with
      | none => rw [hr] at h; cases h
      | some q =>
        rw [hr] at h
        cases h
        obtain ⟨k1, k2, k3⟩ := orOp_spec hc hr
        refine ⟨⟨k2, k3 _ _ (fun e1 s1 h1 => ?_) (fun v e1 s1 h1 => ?_)⟩, k1⟩
        · subst h1
          exact absurd hr (hr' e1 s1)
        · subst h1
          exact ⟨rfl, rfl, rfl⟩
theorem xFloatB_spec {P : Program} {call : Caller} (hc : CallerOk P call) {N : Nat} {o : Oper} {e : EE} {s : ES} {w : Option Bool} {r : OR} (h : xFloatB P call N o e s w = some r) :
    dstOk N o.dst ∧ ∃ e', r = .on e' s ∧ ∀ K : Env → St → Prop, K e'.toEnv s.toSt → opA P K o e.toEnv s.toSt w := by
  unfold xFloatB at h
  split at h
  · unfold xFloat at h
    split at h
    · rename_i v hv
      obtain ⟨k1, e', rfl, k2⟩ := orVal_self h
      refine ⟨k1, e', rfl, fun K hK => ?_⟩
      rw [k2] at hK
      show opRes P K e.toEnv s.toSt o.dst (evalOp P o e.toEnv s.toSt)
      rw [hv]
      exact hK
    · rename_i f args hv
      unfold xQuiet at h
      split at h
      · rename_i v s2 hcall
        cases hq : (Nat.beq s2.next s.next && Nat.ble s.next s2.lo) with
        | false => rw [hq] at h; cases h
        | true =>
          rw [hq] at h
          rw [Bool.and_eq_true] at hq
          have q1 := Nat.eq_of_beq_eq_true hq.1
          have q2 := Nat.le_of_ble_eq_true hq.2
          obtain ⟨k1, e', rfl, k2⟩ := orVal_self h
          obtain ⟨c1, c2⟩ := hc _ _ _ _ _ hcall
          have hst : s2.toSt = s.toSt := by
            refine St.ext q1 (fun b => ?_) rfl c2.known
            by_cases hb : b < s.next
            · exact c2.keep b (by omega) hb
            · rw [es_get, es_get, q1, if_neg hb, if_neg hb]
          refine ⟨k1, e', rfl, fun K hK => ?_⟩
          rw [k2] at hK
          show opRes P K e.toEnv s.toSt o.dst (evalOp P o e.toEnv s.toSt)
          rw [hv]
          refine ⟨v, c1.mono ?_, hK⟩
          rintro x T ⟨rfl, rfl⟩
          exact ⟨rfl, hst⟩
      · cases h
    · cases h
  · obtain ⟨k1, e', rfl, k2⟩ := orVal_self h
    refine ⟨k1, e', rfl, fun K hK => ?_⟩
    rw [k2] at hK
    exact hK
  · cases h
theorem xStab_spec {P : Program} {ops : List Oper} {e : EE} {s : ES} : ∀ {l : List Nat}, xStab P ops e s l = true → stab P ops e.toEnv s.toSt l
  | [], _ => trivial
  | i :: r, h => by
    simp only [xStab, Bool.and_eq_true] at h
    refine ⟨?_, xStab_spec h.2⟩
    have h1 := h.1
    unfold stabOne
    split at h1
    · rename_i o ho
      rw [ho]
      simp only
      cases hd : o.dst with
      | none =>
        unfold xStabOne at h1
        rw [hd] at h1
        split at h1
        · cases h1
        · unfold xStabVal at h1; split at h1 <;> cases h1
        · unfold xStabVal at h1; split at h1 <;> cases h1
      | some d =>
        simp only
        have hv : xStabVal e o.dst (evalOp P o e.toEnv s.toSt) = true → evalOp P o e.toEnv s.toSt = some (.val (e.toEnv.get d) []) := by
          intro hx
          unfold xStabVal at hx
          rw [hd] at hx
          split at hx
          · rename_i v hv
            rw [hv, AV.beq_eq hx]
          · cases hx
        unfold xStabOne at h1
        split at h1
        · rename_i hw; exact .inl hw
        · exact .inr (by rw [hv h1]; rfl)
        · exact .inr (by rw [hv h1]; rfl)
    · cases h1
theorem xPlan_spec {P : Program} {call : Caller} (hc : CallerOk P call) {N : Nat} {ops : List Oper} : ∀ {p : Plan} {e : EE} {s : ES} {r : OR}, xPlan P call N ops p e s = some r →
    ∃ e' s', r = .on e' s' ∧ WPlan P N ops (At .normal e' s') p e.toEnv s.toSt ∧ Gr s s'
  | .done, e, s, r, h => by cases h; exact ⟨e, s, rfl, ⟨rfl, rfl, rfl⟩, .refl s⟩
  | .op i next, e, s, r, h => by
    simp only [xPlan] at h
    simp only [WPlan]
    split at h
    · cases h
    · rename_i o ho
      try rw [ho]
      split at h
      · rename_i e1 s1 h1
        obtain ⟨k1, e2, k2, k3⟩ := xFloatB_spec hc h1
        cases k2
        obtain ⟨e', s', rfl, k4, k5⟩ := xPlan_spec hc h
        exact ⟨e', s', rfl, ⟨k1, k3 _ k4⟩, k5⟩
      · cases h
  | .step i chk next .done, e, s, r, h => by
    simp only [xPlan] at h
    simp only [WPlan]
    split at h
    · cases h
    · rename_i o ho
      try rw [ho]
      split at h
      · rename_i e1 s1 h1
        unfold xChk at h1
        split at h1
        · rename_i e2 s2 h2
          cases hs : xStab P ops e2 s2 chk with
          | false => rw [hs] at h1; cases h1
          | true =>
            rw [hs] at h1
            cases h1
            obtain ⟨k1, k2, k3⟩ := orOp_spec hc h2
            obtain ⟨e', s', rfl, k4, k5⟩ := xPlan_spec hc h
            refine ⟨e', s', rfl, ⟨.inl rfl, k2, ?_⟩, k1.trans k5⟩
            have key : ∀ (w : Option Bool) (K : Env → St → Prop) (KA : AV → St → Prop), (∀ v T, K (e.toEnv.setO o.dst v) T → KA v T) → guardK P K (fun x _ _ => match x with | .panic _ => False | _ => True) o e.toEnv s.toSt w →
                stepA P o KA (panK (At .normal e' s')) e.toEnv s.toSt w := by
              intro w K KA hk hg
              match w, hg with
              | some false, hg => exact hk _ _ hg
              | some true, hg =>
                show stepRes P KA _ s.toSt (evalOp P o e.toEnv s.toSt)
                replace hg : resK P K _ e.toEnv s.toSt o.dst (evalOp P o e.toEnv s.toSt) := hg
                cases hev : evalOp P o e.toEnv s.toSt with
                | none => rw [hev] at hg; exact hg.elim
                | some res =>
                  rw [hev] at hg
                  cases res with
                  | val v cm => exact hk _ _ hg
                  | skip cm => exact hk _ _ hg
                  | call f args =>
                    refine WC.mono hg fun x T => ?_
                    cases x with
                    | ret v => exact hk _ _
                    | panic v => exact fun h => h.elim
                  | pan v => exact hg.elim
                  | any l => exact fun p hp => hk _ _ (hg p hp)
            refine key _ (fun E T => stab P ops E T chk ∧ WPlan P N ops (At .normal e' s') next E T) _ (fun v T hh => hh) (k3 _ _ (fun e3 s3 h3 => ?_) (fun v e3 s3 h3 => by cases h3))
            cases h3
            exact ⟨xStab_spec hs, k4⟩
        · cases h1
      · cases h
  | .step i chk next (.op _ _), e, s, r, h => by simp [xPlan] at h
  | .step i chk next (.step _ _ _ _), e, s, r, h => by simp [xPlan] at h
theorem at_thenX {next : Env → St → Prop} {Q : AQ} {x : AX} {e : EE} {s : ES} (h1 : x = .normal → next e.toEnv s.toSt) (h2 : x ≠ .normal → Q x e.toEnv s.toSt) : ∀ y env T, At x e s y env T → thenX next Q y env T := by
  rintro y env T ⟨rfl, rfl, rfl⟩
  cases y with
  | normal => exact h1 rfl
  | exit i => exact h2 (by simp)
  | ret => exact h2 (by simp)
  | panic v => exact h2 (by simp)
theorem xLoop_spec {P : Program} {N : Nat} {c : Code} {body : EE → ES → XR} (hb : ∀ e s x e' s', body e s = some (x, e', s') → WCode P N c (At x e' s') e.toEnv s.toSt ∧ Gr s s') : ∀ {n : Nat} {e : EE} {s : ES} {x : AX} {e' : EE} {s' : ES},
    xLoop body n e s = some (x, e', s') → WLoop P N c (At x e' s') e.toEnv s.toSt ∧ Gr s s'
  | 0, _, _, _, _, _, h => by simp [xLoop] at h
  | n + 1, e, s, x, e', s', h => by
    simp only [xLoop] at h
    split at h
    · rename_i e1 s1 h1
      obtain ⟨k1, k2⟩ := hb _ _ _ _ _ h1
      obtain ⟨k3, k4⟩ := xLoop_spec hb h
      refine ⟨wloop_round (wcode_mono k1 (at_thenX (fun _ => k3) (fun hn => absurd rfl hn))), k2.trans k4⟩
    · rename_i r hr
      obtain ⟨k1, k2⟩ := hb _ _ _ _ _ h
      refine ⟨wloop_round (wcode_mono k1 (at_thenX (fun hx => ?_) (fun hn => ⟨rfl, rfl, rfl⟩))), k2⟩
      subst hx
      exact absurd h (hr e' s')
theorem xCode_spec {P : Program} (hm : P.follows .mixedOrders = true) {pl : Pl} {call : Caller} (hc : CallerOk P call) {N fuel : Nat} : ∀ {c : Code} {e : EE} {s : ES} {x : AX} {e' : EE} {s' : ES}, codeOk pl c = true →
    xCode P pl call N fuel c e s = some (x, e', s') → WCode P N c (At x e' s') e.toEnv s.toSt ∧ Gr s s'
  | .skip, e, s, x, e', s', _, h => by cases h; exact ⟨⟨rfl, rfl, rfl⟩, .refl s⟩
  | .region id ops false, e, s, x, e', s', _, h => by
    simp only [xCode] at h
    unfold ofOR at h
    split at h
    · rename_i e1 s1 h1
      cases h
      obtain ⟨k1, k2⟩ := xOps_spec hc h1
      exact ⟨k1, k2⟩
    · rename_i v e1 s1 h1
      cases h
      obtain ⟨k1, k2⟩ := xOps_spec hc h1
      exact ⟨k1, k2⟩
    · cases h
  | .region id ops true, e, s, x, e', s', hp, h => by
    simp only [xCode] at h
    simp only [codeOk] at hp
    split at h
    · rename_i p hpl
      rw [hpl] at hp
      simp only [Bool.and_eq_true] at hp
      unfold ofOR at h
      split at h
      · rename_i e1 s1 h1
        cases h
        obtain ⟨e2, s2, k0, k1, k2⟩ := xPlan_spec hc h1
        cases k0
        exact ⟨wdraw_plan _ _ hm hp.1 hp.2 k1, k2⟩
      · rename_i v e1 s1 h1
        obtain ⟨e2, s2, k0, _⟩ := xPlan_spec hc h1
        cases k0
      · cases h
    · cases h
  | .seq a b, e, s, x, e', s', hp, h => by
    simp only [codeOk, Bool.and_eq_true] at hp
    simp only [xCode] at h
    split at h
    · rename_i e1 s1 h1
      obtain ⟨k1, k2⟩ := xCode_spec hm hc hp.1 h1
      obtain ⟨k3, k4⟩ := xCode_spec hm hc hp.2 h
      exact ⟨by rw [wcode_seq]; exact wcode_mono k1 (at_thenX (fun _ => k3) (fun hn => absurd rfl hn)), k2.trans k4⟩
    · rename_i r hr
      obtain ⟨k1, k2⟩ := xCode_spec hm hc hp.1 h
      rw [wcode_seq]
      refine ⟨wcode_mono k1 (at_thenX (fun hx => ?_) (fun hn => ⟨rfl, rfl, rfl⟩)), k2⟩
      subst hx
      exact absurd h (hr e' s')
  | .cond t a b, e, s, x, e', s', hp, h => by
    simp only [codeOk, Bool.and_eq_true] at hp
    simp only [xCode] at h
    simp only [WCode]
    split at h
    · rename_i ht
      rw [ht]
      exact xCode_spec hm hc hp.1 h
    · rename_i ht
      rw [ht]
      exact xCode_spec hm hc hp.2 h
    · cases h
  | .block id c, e, s, x, e', s', hp, h => by
    simp only [codeOk] at hp
    simp only [xCode] at h
    split at h
    · rename_i j e1 s1 h1
      obtain ⟨k1, k2⟩ := xCode_spec hm hc hp h1
      rw [wcode_block]
      rw [bif_beq] at h
      split at h
      · rename_i hj
        cases h
        refine ⟨wcode_mono k1 ?_, k2⟩
        rintro y env T ⟨rfl, rfl, rfl⟩
        simp only [blockX, hj, if_true]
        exact ⟨rfl, rfl, rfl⟩
      · rename_i hj
        cases h
        refine ⟨wcode_mono k1 ?_, k2⟩
        rintro y env T ⟨rfl, rfl, rfl⟩
        simp only [blockX, hj, if_false]
        exact ⟨rfl, rfl, rfl⟩
    · rename_i r hr
      obtain ⟨k1, k2⟩ := xCode_spec hm hc hp h
      rw [wcode_block]
      refine ⟨wcode_mono k1 ?_, k2⟩
      rintro y env T ⟨rfl, rfl, rfl⟩
      cases y with
      | exit j => exact absurd h (hr j e' s')
      | _ => exact ⟨rfl, rfl, rfl⟩
  | .loop c, e, s, x, e', s', hp, h => by
    simp only [codeOk] at hp
    simp only [xCode] at h
    exact xLoop_spec (fun e s x e' s' h => xCode_spec hm hc hp h) h
  | .exit id, e, s, x, e', s', _, h => by cases h; exact ⟨⟨rfl, rfl, rfl⟩, .refl s⟩
  | .ret, e, s, x, e', s', _, h => by cases h; exact ⟨⟨rfl, rfl, rfl⟩, .refl s⟩
  | .rangeFunc _ _ _ _, _, _, _, _, _, _, h => by simp [xCode] at h
  | .scope _, _, _, _, _, _, _, h => by simp [xCode] at h
  | .label _, _, _, _, _, _, _, h => by simp [xCode] at h
  | .goto _, _, _, _, _, _, _, h => by simp [xCode] at h
  | .refuse _, _, _, _, _, _, _, h => by simp [xCode] at h
theorem gr_back {s s1 : ES} (h : Gr { s with lo := s.next } s1) : Gr s { s1 with lo := bif Nat.blt s1.lo s.lo then s1.lo else s.lo } := by
  have hlo : (bif Nat.blt s1.lo s.lo then s1.lo else s.lo) ≤ s.lo ∧ (bif Nat.blt s1.lo s.lo then s1.lo else s.lo) ≤ s1.lo := by
    rw [blt_dec]
    by_cases h : s1.lo < s.lo
    · simp [h]; omega
    · simp [h]; omega
  refine ⟨h.next, hlo.1, fun b h1 h2 => ?_, h.known⟩
  have := h.keep b (Nat.lt_of_lt_of_le h1 hlo.2) h2
  exact this
theorem xEnd_spec {P : Program} {s s1 : ES} (h : Gr { s with lo := s.next } s1) (hS : Shut s.toSt) {v : AV} {x : CX} {s' : ES} (he : xEnd s v s1 = (x, s')) :
    ends P s.toSt.next (fun y T => y = x ∧ T = s'.toSt) v s1.toSt ∧ Gr s s' := by
  unfold xEnd at he
  cases hc : (Nat.ble s.next s1.lo && v.under s.next 4) with
  | false =>
    rw [hc] at he
    cases he
    exact ⟨ends_now ⟨rfl, rfl⟩, gr_back h⟩
  | true =>
    rw [hc] at he
    cases he
    rw [Bool.and_eq_true] at hc
    have hlo := Nat.le_of_ble_eq_true hc.1
    have hk : ∀ b, b < s.next → s1.toSt.get b = s.toSt.get b := fun b hb => h.keep b (by omega) hb
    refine ⟨ends_pop hc.2 ⟨fun b o hb ho => hS.2.1 b o hb (by rw [hk b hb] at ho; exact ho), fun t ht => by cases ht⟩ ⟨rfl, ?_⟩, .refl s⟩
    refine St.ext rfl (fun b => ?_) rfl h.known
    show (bif Nat.blt b s.next then s1.toSt.get b else none) = s.toSt.get b
    rw [blt_dec]
    by_cases hb : b < s.next
    · simp [hb, hk b hb]
    · simp [hb, es_get]
theorem xBody_spec {P : Program} {fn : Func} {s : ES} (hS : Shut s.toSt) {X : XR} {x : CX} {s' : ES} (h : xBody P fn.results.toList s X = some (x, s')) :
    ∃ y e1 s1, X = some (y, e1, s1) ∧ (Gr { s with lo := s.next } s1 → bodyR P fn.results.toList s.toSt.next (fun y T => y = x ∧ T = s'.toSt) y e1.toEnv s1.toSt ∧ Gr s s') := by
  have key : ∀ {e1 : EE} {s1 : ES} {l : List AV}, resAs P e1.toEnv s1.toSt fn.results.toList = some l → xEnd s (oneOrTup l) s1 = (x, s') → Gr { s with lo := s.next } s1 →
      endR P s.toSt.next (fun y T => y = x ∧ T = s'.toSt) s1.toSt (resAs P e1.toEnv s1.toSt fn.results.toList) ∧ Gr s s' := by
    intro e1 s1 l hl he hg
    obtain ⟨k1, k2⟩ := xEnd_spec (P := P) hg hS he
    rw [hl]
    match l, k1 with
    | [], k1 => exact ⟨k1, k2⟩
    | [v], k1 => exact ⟨k1, k2⟩
    | a :: b :: r, k1 => exact ⟨k1, k2⟩
  unfold xBody at h
  split at h
  · rename_i e1 s1
    split at h
    · rename_i l hl
      refine ⟨.normal, e1, s1, rfl, fun hg => key hl (Option.some.inj h) hg⟩
    · cases h
  · rename_i e1 s1
    split at h
    · rename_i l hl
      refine ⟨.ret, e1, s1, rfl, fun hg => key hl (Option.some.inj h) hg⟩
    · cases h
  · rename_i v e1 s1
    cases h
    exact ⟨.panic v, e1, s1, rfl, fun hg => ⟨⟨rfl, rfl⟩, gr_back hg⟩⟩
  · cases h
def ExtOk (P : Program) (ext : FuncId → List AV → ES → Ext1) : Prop :=
  ∀ f args s x s', ext f args s = .yes (some (x, s')) → WC P f args (fun y T => y = x ∧ T = s'.toSt) s.toSt ∧ Gr s s'
theorem gr_end {s s1 s' : ES} {v : AV} {x : CX} (hg : Gr { s with lo := s.next } s1) (he : xEnd s v s1 = (x, s')) : Gr s s' := by
  unfold xEnd at he
  cases hc : (Nat.ble s.next s1.lo && v.under s.next 4) with
  | false => rw [hc] at he; cases he; exact gr_back hg
  | true => rw [hc] at he; cases he; exact .refl s
theorem xCall_spec {P : Program} (hm : P.follows .mixedOrders = true) {pl : Nat → Pl} {ext : FuncId → List AV → ES → Ext1} (hx : ExtOk P ext) {fuel : Nat} : ∀ d, CallerOk P (xCall P pl ext fuel d)
  | 0, f, args, s, x, s', h => by simp [xCall] at h
  | d + 1, f, args, s, x, s', h => by
    simp only [xCall] at h
    unfold xCallD at h
    split at h
    · rename_i r hr
      subst h
      exact hx _ _ _ _ _ hr
    · split at h
      · rename_i fn hf
        unfold xFn at h
        split at h
        · rename_i c hb
          cases hg : (Nat.ble args.length fn.ntmps && codeOk (pl f) c && !(fn.name == "runtime.NumGoroutine")) with
          | false => rw [hg] at h; cases h
          | true =>
            rw [hg] at h
            simp only [Bool.and_eq_true, Bool.not_eq_true'] at hg
            simp only [cond_true] at h
            split at h
            · rename_i e0 he0
              have hh : Shut s.toSt → WCode P fn.ntmps c (bodyR P fn.results.toList s.toSt.next (fun y T => y = x ∧ T = s'.toSt)) (envOf args 0) s.toSt ∧ Gr s s' := by
                intro hS
                obtain ⟨y, e1, s1, k1, k2⟩ := xBody_spec (P := P) (fn := fn) hS h
                obtain ⟨k3, k4⟩ := xCode_spec hm (xCall_spec hm hx d) hg.1.2 k1
                obtain ⟨k5, k6⟩ := k2 k4
                rw [argsT_env he0] at k3
                refine ⟨wcode_mono k3 ?_, k6⟩
                rintro y' env T ⟨rfl, rfl, rfl⟩
                exact k5
              refine ⟨wc_fn hf hg.2 hb rfl rfl hg.1.1 fun hS => (hh hS).1, ?_⟩
              obtain ⟨y, e1, s1, k1, k2⟩ : ∃ y e1 s1, xCode P (pl f) (xCall P pl ext fuel d) fn.ntmps fuel c e0 { s with lo := s.next } = some (y, e1, s1) ∧ (Gr { s with lo := s.next } s1 → Gr s s') := by
                unfold xBody at h
                split at h
                · rename_i e1 s1 hX
                  split at h
                  · refine ⟨_, _, _, hX, fun hg => gr_end hg (Option.some.inj h)⟩
                  · cases h
                · rename_i e1 s1 hX
                  split at h
                  · refine ⟨_, _, _, hX, fun hg => gr_end hg (Option.some.inj h)⟩
                  · cases h
                · rename_i v e1 s1 hX
                  cases h
                  exact ⟨_, _, _, hX, fun hg => gr_back hg⟩
                · cases h
              obtain ⟨_, k4⟩ := xCode_spec hm (xCall_spec hm hx d) hg.1.2 k1
              exact k2 k4
            · cases h
        · cases h
      · cases h
end Go.Abs

namespace Go.Abs
mutual
def FV.plain : FV → Bool
  | .sl _ => false
  | .agg cs => FV.plains cs
  | .iface _ v => v.plain
  | _ => true
def FV.plains : List FV → Bool
  | [] => true
  | x :: r => x.plain && FV.plains r
end
theorem plains_mem : ∀ {l : List FV}, FV.plains l = true → ∀ {i : Nat} {a : FV}, l[i]? = some a → a.plain = true
  | [], _, i, a, h => by simp at h
  | x :: r, hp, i, a, h => by
    simp only [FV.plains, Bool.and_eq_true] at hp
    cases i with
    | zero => simp at h; subst h; exact hp.1
    | succ i => exact plains_mem hp.2 (by simpa using h)
theorem relF_plain {F F' : Nat → Nat → Option Value} {v : FV} {x : Value} (h : RelF F v x) : v.plain = true → RelF F' v x := by
  induction h with
  | bool b => exact fun _ => .bool b
  | int k n => exact fun _ => .int k n
  | str s => exact fun _ => .str s
  | nilp => exact fun _ => .nilp
  | nils => exact fun _ => .nils
  | nilm => exact fun _ => .nilm
  | nilf => exact fun _ => .nilf
  | nili => exact fun _ => .nili
  | fn f => exact fun _ => .fn f
  | agg cs vs hl h ih =>
    intro hp
    have hp' : FV.plains cs = true := hp
    exact .agg cs vs hl fun i a b ha hb => ih i a b ha hb (plains_mem hp' ha)
  | iface t a v h ih => exact fun hp => .iface t a v (ih hp)
  | sl0 a cap => intro hp; cases hp
  | slN => intro hp; cases hp
  | sl xs g o s cap vals hs hc hF hR ho ih => intro hp; cases hp
def empty : ES := { next := 0, lo := 0, mem := .nil }
def emptyK (K : List (Nat × List Value)) : ES := { next := 0, lo := 0, mem := .nil, known := K }
theorem empty_get (b : Nat) : empty.toSt.get b = none := by
  rw [es_get]; rfl
theorem emptyK_get (K : List (Nat × List Value)) (b : Nat) : (emptyK K).toSt.get b = none := by
  rw [es_get]; rfl
def pureArgs : List AV → Bool
  | [] => true
  | .c _ :: r => pureArgs r
  | _ :: _ => false
theorem pureArgs_mem : ∀ {l : List AV}, pureArgs l = true → ∀ {i : Nat} {a : AV}, l[i]? = some a → ∃ v, a = .c v
  | [], _, i, a, h => by simp at h
  | x :: r, hp, i, a, h => by
    cases x with
    | c v =>
      cases i with
      | zero => simp at h; exact ⟨v, h.symm⟩
      | succ i => exact pureArgs_mem (l := r) hp (by simpa using h)
    | _ => cases hp
def plainAs : List AV → Bool
  | [] => true
  | .c v :: r => v.plain && plainAs r
  | _ :: _ => false
def plainA : AV → Bool
  | .c v => v.plain
  | .tup vs => plainAs vs
  | _ => false
theorem plainAs_mem : ∀ {l : List AV}, plainAs l = true → ∀ {i : Nat} {a : AV}, l[i]? = some a → ∃ v, a = .c v ∧ v.plain = true
  | [], _, i, a, h => by simp at h
  | x :: r, hp, i, a, h => by
    cases x with
    | c v =>
      have hp' : (v.plain && plainAs r) = true := hp
      rw [Bool.and_eq_true] at hp'
      cases i with
      | zero => simp at h; exact ⟨v, h.symm, hp'.1⟩
      | succ i => exact plainAs_mem hp'.2 (by simpa using h)
    | _ => cases hp
theorem relA_plain {G G' : Gh} {a : AV} {x : Value} (h : RelA G a x) (hp : plainA a = true) : RelA G' a x := by
  cases a with
  | c v => exact .c (relF_plain (relA_c h) hp)
  | tup vs =>
    cases h with
    | tup hl hr =>
      refine .tup hl fun i a b ha hb => ?_
      obtain ⟨v, rfl, hv⟩ := plainAs_mem (l := vs) hp ha
      exact .c (relF_plain (relA_c (hr i _ b ha hb)) hv)
  | _ => cases hp
theorem wc_closedA {P : Program} {f : FuncId} {args : List AV} {r : AV} (hp : plainA r = true) (ha : pureArgs args = true) {K : List (Nat × List Value)} (h : WC P f args (fun y T => y = .ret r ∧ T = (emptyK K).toSt) (emptyK K).toSt) (S : St) (hK : ∀ p ∈ K, p ∈ S.known) :
    WC P f args (Is r S) S := by
  intro G vals w hr hI
  let G0 : Gh := { F := G.F, ρ := fun _ => none, τ := fun _ => none }
  have hI0 : Inv G0 (emptyK K).toSt w := by
    refine ⟨⟨es_wf _, hI.cells, fun b ob hb => ?_, fun b b' ob ob' B B' hb => ?_, fun t ht => (by cases ht), fun t t' g x x' ht => (by cases ht), List.nodup_nil, fun b _ => ⟨rfl, rfl⟩, fun b B hB => (by cases hB)⟩, fun p hp => ⟨(hI.known p (hK p hp)).1, ?_⟩⟩
    · rw [emptyK_get] at hb; cases hb
    · rw [emptyK_get] at hb; cases hb
    · rintro (⟨b, ob, B, h1, _⟩ | ⟨t, ht, _⟩)
      · rw [emptyK_get] at h1; cases h1
      · cases ht
  have hr0 : RelL G0 args vals := ⟨hr.len, fun i a b hA hB => by
    obtain ⟨u, rfl⟩ := pureArgs_mem ha hA
    have hu : RelF G.F u b := relA_c (hr.rel i _ b hA hB)
    exact .c hu⟩
  refine (h G0 vals w hr0 hI0).mono ?_
  rintro e w' ⟨x, S', G', ⟨rfl, rfl⟩, k1, k2, k3⟩
  have hno : ∀ g, ¬ Own G0 (emptyK K).toSt g := by
    rintro g (⟨b, ob, B, h1, _⟩ | ⟨t, ht, _⟩)
    · rw [emptyK_get] at h1; cases h1
    · cases ht
  have hsame : ∀ g, g < w.heap.size → w'.heap[g]? = w.heap[g]? := fun g hg => k3.same g hg (hno g)
  refine ⟨.ret r, S, G, ⟨rfl, rfl⟩, ?_, ?_, ?_⟩
  · cases e with
    | returned y => exact relA_plain k1 hp
    | panicked ch => exact k1.elim
    | outgrown => exact k1.elim
  · refine ⟨⟨hI.wf, fun g o u hu => k2.cells g o u (k3.le.F g o u hu), ?_, hI.apart, ?_, hI.tags, hI.nodup, hI.fresh, fun b B hB => ⟨Nat.lt_of_lt_of_le (hI.born b B hB).1 k3.size, (hI.born b B hB).2⟩⟩, fun p hp => ⟨let ⟨T, fr, h1⟩ := (hI.known p hp).1; ⟨T, fr, (hsame _ ((Array.getElem?_eq_some_iff.1 h1).1)).trans h1⟩, (hI.known p hp).2⟩⟩
    · intro b ob hb hl
      obtain ⟨B, hB, hO⟩ := hI.obs b ob hb hl
      exact ⟨B, hB, hO.keep (.refl G) (fun _ _ h => h) (hsame _ (hI.born b B hB).1)⟩
    · intro t ht
      obtain ⟨g, st, en, s, h1, ⟨C, T, lo, hi, h2, h3⟩, h4⟩ := hI.spare t ht
      exact ⟨g, st, en, s, h1, ⟨C, T, lo, hi, by rw [hsame g ((Array.getElem?_eq_some_iff.1 h2).1)]; exact h2, h3⟩, h4⟩
  · exact ⟨.refl G, Nat.le_refl _, k3.size, fun g hg _ => hsame g hg, fun g ho => .inl ho, k3.os, k3.tape, k3.output⟩
theorem wc_closed {P : Program} {f : FuncId} {args : List AV} {v : FV} (hp : v.plain = true) (ha : pureArgs args = true) {K : List (Nat × List Value)} (h : WC P f args (fun y T => y = .ret (.c v) ∧ T = (emptyK K).toSt) (emptyK K).toSt) (S : St) (hK : ∀ p ∈ K, p ∈ S.known) :
    WC P f args (Is (.c v) S) S := wc_closedA (r := .c v) hp ha h S hK
theorem wc_runA {P : Program} (hm : P.follows .mixedOrders = true) {pl : Nat → Pl} {ext : FuncId → List AV → ES → Ext1} (hx : ExtOk P ext) {fuel d : Nat} {f : FuncId} {args : List AV} {r : AV} (hp : plainA r = true) (ha : pureArgs args = true)
    (h : xCall P pl ext fuel d f args empty = some (.ret r, empty)) (S : St) : WC P f args (Is r S) S :=
  wc_closedA (K := []) hp ha (xCall_spec hm hx d f args empty _ _ h).1 S (by simp)
theorem wc_run {P : Program} (hm : P.follows .mixedOrders = true) {pl : Nat → Pl} {ext : FuncId → List AV → ES → Ext1} (hx : ExtOk P ext) {fuel d : Nat} {f : FuncId} {args : List AV} {v : FV} (hp : v.plain = true) (ha : pureArgs args = true)
    (h : xCall P pl ext fuel d f args empty = some (.ret (.c v), empty)) (S : St) : WC P f args (Is (.c v) S) S :=
  wc_closed (K := []) hp ha (xCall_spec hm hx d f args empty _ _ h).1 S (by simp)
end Go.Abs

namespace Go.Abs
abbrev DA := FuncId × List AV
def DRel (G : Gh) (D : List DA) (ds : List Deferred) : Prop :=
  D.length = ds.length ∧ ∀ (i : Nat) (p : DA) (d : Deferred), D[i]? = some p → ds[i]? = some d → ∃ caps : Array Value, d.target = .fn (.func p.1) caps ∧ RelL G p.2 (d.args ++ caps).toList
theorem DRel.mono {G G' : Gh} (hG : G.le G') {D : List DA} {ds : List Deferred} (h : DRel G D ds) : DRel G' D ds :=
  ⟨h.1, fun i p d hp hd => let ⟨caps, h1, h2⟩ := h.2 i p d hp hd; ⟨caps, h1, h2.mono hG⟩⟩
theorem DRel.nil (G : Gh) : DRel G [] [] := ⟨rfl, fun i p d hp => by simp at hp⟩
theorem drel_nil {G : Gh} {ds : List Deferred} (h : DRel G [] ds) : ds = [] := List.eq_nil_of_length_eq_zero (by simpa using h.1.symm)
theorem DRel.cons {G : Gh} {D : List DA} {ds : List Deferred} {p : DA} {d : Deferred} {caps : Array Value} (h : DRel G D ds) (h1 : d.target = .fn (.func p.1) caps) (h2 : RelL G p.2 (d.args ++ caps).toList) : DRel G (p :: D) (d :: ds) :=
  ⟨by simp [h.1], fun i q e hq he => by
    cases i with
    | zero => simp at hq he; subst hq; subst he; exact ⟨caps, h1, h2⟩
    | succ i => exact h.2 i q e (by simpa using hq) (by simpa using he)⟩
theorem drel_one {G : Gh} {p : DA} {ds : List Deferred} (h : DRel G [p] ds) : ∃ d caps, ds = [d] ∧ d.target = .fn (.func p.1) caps ∧ RelL G p.2 (d.args ++ caps).toList := by
  match ds, h with
  | [d], h => obtain ⟨caps, h1, h2⟩ := h.2 0 p d rfl rfl; exact ⟨d, caps, rfl, h1, h2⟩
  | [], h => have := h.1; simp at this
  | _ :: _ :: _, h => have := h.1; simp at this
abbrev EQ := AX → List DA → Env → St → Prop
def PostD (N : Nat) (G : Gh) (S : St) (w : World) (Q : EQ) (e : Exit) (a : Act) (w' : World) : Prop :=
  ∃ x D env' S' G', Q x D env' S' ∧ XRel G' x e ∧ EnvRel N G' env' a.tmps ∧ Inv G' S' w' ∧ Ext G S w G' S' w' ∧ DRel G' D a.defers
theorem PostD.trans {N : Nat} {G G1 : Gh} {S S1 : St} {w w1 : World} {Q : EQ} {e : Exit} {a : Act} {w' : World} (h : Ext G S w G1 S1 w1) (k : PostD N G1 S1 w1 Q e a w') : PostD N G S w Q e a w' := by
  obtain ⟨x, D, env', S', G', h1, h2, h3, h4, h5, h6⟩ := k
  exact ⟨x, D, env', S', G', h1, h2, h3, h4, h.trans h5, h6⟩
def WE (P : Program) (N : Nat) (c : Code) (Q : EQ) (D : List DA) (env : Env) (S : St) : Prop :=
  ∀ G a w, EnvRel N G env a.tmps → Inv G S w → DRel G D a.defers → c.wp P (PostD N G S w Q) a w
theorem WE.mono {P : Program} {N : Nat} {c : Code} {Q Q' : EQ} {D : List DA} {env : Env} {S : St} (h : WE P N c Q D env S) (hq : ∀ x D env S, Q x D env S → Q' x D env S) : WE P N c Q' D env S :=
  fun G a w h1 h2 h3 => wp_mono (h G a w h1 h2 h3) fun e a w ⟨x, D, env', S', G', k1, k2⟩ => ⟨x, D, env', S', G', hq _ _ _ _ k1, k2⟩
theorem we_of_w {P : Program} {N : Nat} {c : Code} {Q : EQ} {D : List DA} {env : Env} {S : St} (h : W P N c (fun x e s => Q x D e s) env S) : WE P N c Q D env S := by
  intro G a w hE hI hD
  refine wp_mono (h G a w hE hI) ?_
  rintro e a' w' ⟨x, env', S', G', k1, k2, k3, k4, k5, k6⟩
  exact ⟨x, D, env', S', G', k1, k2, k3, k4, k5, by rw [k6]; exact hD.mono k5.le⟩
def thenE (next : List DA → Env → St → Prop) (Q : EQ) : EQ
  | .normal, D, env, S => next D env S
  | x, D, env, S => Q x D env S
theorem we_seq {P : Program} {N : Nat} {x y : Code} {Q : EQ} {D : List DA} {env : Env} {S : St} (h : WE P N x (thenE (WE P N y Q) Q) D env S) : WE P N (.seq x y) Q D env S := by
  intro G a w hE hI hD
  refine wp_seq (wp_mono (h G a w hE hI hD) ?_)
  rintro e a' w' ⟨x, D', env', S', G', k1, k2, k3, k4, k5, k6⟩
  cases x with
  | normal =>
    cases e with
    | normal => exact wp_mono (k1 G' a' w' k3 k4 k6) fun e a w h => h.trans k5
    | _ => exact k2.elim
  | exit i =>
    cases e with
    | exit j => exact ⟨.exit i, D', env', S', G', k1, k2, k3, k4, k5, k6⟩
    | _ => exact k2.elim
  | ret =>
    cases e with
    | ret => exact ⟨.ret, D', env', S', G', k1, k2, k3, k4, k5, k6⟩
    | _ => exact k2.elim
  | panic v =>
    cases e with
    | panic ch => exact ⟨.panic v, D', env', S', G', k1, k2, k3, k4, k5, k6⟩
    | _ => exact k2.elim
def deferA (env : Env) (D : List DA) : Op → Option (List DA)
  | .defer { callee := .value f, args, .. } =>
    match opnd env f, opnds env args.toList with
    | some g, some l =>
      match calleeA g with
      | some (f, first, caps) => some ((f, first ++ l ++ caps) :: D)
      | none => none
    | _, _ => none
  | _ => none
def WOpsE (P : Program) (N : Nat) (Q : EQ) : List Oper → List DA → Env → St → Prop
  | [], D, env, S => Q .normal D env S
  | o :: rest, D, env, S => dstOk N o.dst ∧ o.guard = none ∧
    ((∃ v cm, evalOp P o env S = some (.val v cm) ∧ WOpsE P N Q rest D (env.setO o.dst v) (S.run cm)) ∨
     (∃ D', deferA env D o.op = some D' ∧ WOpsE P N Q rest D' (env.setO o.dst (.tup [])) S))
theorem wopsE_sound {P : Program} {N : Nat} {ops : List Oper} {Q : EQ} {G0 : Gh} {S0 : St} {w0 : World} : ∀ (l : List Nat) (rest : List Oper) (D : List DA) (env : Env) (S : St) (G : Gh) (a : Act) (w : World),
    l.map (fun i => ops[i]?) = rest.map some → WOpsE P N Q rest D env S → EnvRel N G env a.tmps → Inv G S w → DRel G D a.defers → Ext G0 S0 w0 G S w →
    wpOps P ops.toArray (PostD N G0 S0 w0 Q) l a w
  | [], [], D, env, S, G, a, w, _, h, hE, hI, hD, hX => ⟨.normal, D, env, S, G, h, trivial, hE, hI, hX, hD⟩
  | [], _ :: _, _, _, _, _, _, _, hl, _, _, _, _, _ => by simp at hl
  | _ :: _, [], _, _, _, _, _, _, hl, _, _, _, _, _ => by simp at hl
  | i :: l, o :: rest, D, env, S, G, a, w, hl, h, hE, hI, hD, hX => by
    simp only [List.map_cons, List.cons.injEq] at hl
    obtain ⟨ho, hl⟩ := hl
    simp only [WOpsE] at h
    obtain ⟨hd, hg, h⟩ := h
    have hoa : ops.toArray[i]? = some o := by simpa using ho
    have hw : Region.wanted o (yielded ops.toArray a.tmps) = true := by simp [Region.wanted, hg]
    simp only [wpOps, hoa, hw, if_true]
    left
    rcases h with ⟨v, cm, he, h⟩ | ⟨D', he, h⟩
    · obtain ⟨x, G', w', k1, k2, k3, k4⟩ := evalOp_sound (P := P) hI hE he
      simp only [Oper.wp, k1, Oper.upon]
      exact wopsE_sound l rest D _ _ G' (a.put o.dst x) w' hl h ((hE.mono k4.le).put hd k2) k3 (by rw [put_defers]; exact hD.mono k4.le) (hX.trans k4)
    · obtain ⟨dst, op, type, pos, after, guard⟩ := o
      unfold deferA at he
      split at he
      · rename_i f args ats hop
        simp only at hop
        subst hop
        split at he
        · rename_i g l' hgv hlv
          split at he
          · rename_i fid first caps hcal
            cases he
            have hr := opnds_rel hE hlv
            obtain ⟨fs, cs, h1, r1, r2⟩ := callee_rel hcal (opnd_rel hE hgv)
            have hrun : Sem.run P (execOp a.eval { dst := dst, op := .defer { callee := .value f, args := args, argTypes := ats }, type := type, pos := pos, after := after, guard := guard }) w =
                .ok (.defer { target := .fn (.func fid) cs.toArray, args := fs.toArray ++ args.map a.eval }) w := by
              simp only [execOp, resolve, h1, Deferred.ofValue, Sem.run_bind, Sem.run_pure, Result.andThen_ok]
            simp only [Oper.wp, hrun, Oper.upon]
            have hrel : RelL G (first ++ l' ++ caps) ((fs.toArray ++ args.map a.eval) ++ cs.toArray).toList := by
              have e1 : ((fs.toArray ++ args.map a.eval) ++ cs.toArray).toList = fs ++ args.toList.map a.eval ++ cs := by simp
              rw [e1]
              exact relL_append (relL_append r1 hr) r2
            have := wopsE_sound l rest ((fid, first ++ l' ++ caps) :: D) (env.setO dst (.tup [])) S G
              (({ a with defers := { target := .fn (.func fid) cs.toArray, args := fs.toArray ++ args.map a.eval } :: a.defers } : Act).put dst undef) w hl h
              (EnvRel.put (a := { a with defers := { target := .fn (.func fid) cs.toArray, args := fs.toArray ++ args.map a.eval } :: a.defers }) hE hd (undef_rel G)) hI
              (by rw [put_defers]; exact hD.cons rfl hrel) hX
            exact this
          · cases he
        · cases he
      · cases he
theorem we_region {P : Program} {N : Nat} {id : Nat} {ops : Array Oper} {Q : EQ} {D : List DA} {env : Env} {S : St} (h : WOpsE P N Q ops.toList D env S) : WE P N (.region id ops false) Q D env S := by
  intro G a w hE hI hD
  refine wp_region ?_
  have := wopsE_sound (P := P) (ops := ops.toList) (List.range ops.size) ops.toList D env S G a w (by
    apply List.ext_getElem?
    intro i
    simp only [List.getElem?_map]
    by_cases hi : i < ops.size
    · simp [hi]
    · simp [Nat.not_lt.1 hi]) h hE hI hD (.refl G S w)
  simpa using this
inductive DM where
  | ret
  | pan (v : AV)
  | back (v : AV)
def DMRel (G : Gh) : DM → FrameMode → Prop
  | .ret, m => m = .returning
  | .pan v, m => ∃ x, m = .panicking [{ v := x, recovered := false }] ∧ RelA G v x
  | .back v, m => ∃ x, m = .panicking [{ v := x, recovered := true }] ∧ RelA G v x
theorem DMRel.mono {G G' : Gh} (hG : G.le G') {M : DM} {m : FrameMode} (h : DMRel G M m) : DMRel G' M m := by
  cases M with
  | ret => exact h
  | pan v => obtain ⟨x, h1, h2⟩ := h; exact ⟨x, h1, h2.mono hG⟩
  | back v => obtain ⟨x, h1, h2⟩ := h; exact ⟨x, h1, h2.mono hG⟩
def WDc (P : Program) (f : FuncId) (args : List AV) (R : CX → DM → St → Prop) (M : DM) (S : St) : Prop :=
  ∀ G (vals : List Value) w u, RelL G args vals → Inv G S w → DMRel G M u →
    CallsD P f vals.toArray u w fun e u' w' => ∃ x M' S' G', R x M' S' ∧ CRel G' x e ∧ DMRel G' M' u' ∧ Inv G' S' w' ∧ Ext G S w G' S' w'
abbrev FQ := AX → DM → Env → St → Prop
def WF (P : Program) (N : Nat) (c : Code) (Q : FQ) (M : DM) (env : Env) (S : St) : Prop :=
  ∀ G a w c₀ cs, EnvRel N G env a.tmps → Inv G S w → DMRel G M c₀.mode →
    c.wpS P (fun e a' cs' w' => ∃ x M' env' S' G', Q x M' env' S' ∧ XRel G' x e ∧ EnvRel N G' env' a'.tmps ∧ Inv G' S' w' ∧ Ext G S w G' S' w' ∧ a'.defers = a.defers ∧
      ∃ u', cs' = { c₀ with mode := u' } :: cs ∧ DMRel G' M' u') a (c₀ :: cs) w
theorem wf_of_w {P : Program} {N : Nat} {c : Code} {Q : FQ} {M : DM} {env : Env} {S : St} (h : W P N c (fun x e s => Q x M e s) env S) : WF P N c Q M env S := by
  intro G a w c₀ cs hE hI hM
  refine wpS_of_wp (wp_mono (h G a w hE hI) ?_)
  rintro e a' w' ⟨x, env', S', G', k1, k2, k3, k4, k5, k6⟩
  exact ⟨x, M, env', S', G', k1, k2, k3, k4, k5, k6, c₀.mode, by cases c₀; rfl, hM.mono k5.le⟩
theorem wpS_mono {P : Program} {c : Code} {Q Q' : Exit → Act → List Frame → World → Prop} {a : Act} {cs : List Frame} {w : World} (h : c.wpS P Q a cs w) (hq : ∀ e a cs w, Q e a cs w → Q' e a cs w) : c.wpS P Q' a cs w :=
  fun b k hb hr => let ⟨e, a', cs', w', q, r⟩ := h b k hb hr; ⟨e, a', cs', w', hq _ _ _ _ q, r⟩
def thenF (next : DM → Env → St → Prop) (Q : FQ) : FQ
  | .normal, M, env, S => next M env S
  | x, M, env, S => Q x M env S
theorem wf_seq {P : Program} {N : Nat} {x y : Code} {Q : FQ} {M : DM} {env : Env} {S : St} (h : WF P N x (thenF (WF P N y Q) Q) M env S) : WF P N (.seq x y) Q M env S := by
  intro G a w c₀ cs hE hI hM
  refine wpS_seq (wpS_mono (h G a w c₀ cs hE hI hM) ?_)
  rintro e a' cs' w' ⟨x, M', env', S', G', k1, k2, k3, k4, k5, k6, u', rfl, k7⟩
  cases x with
  | normal =>
    cases e with
    | normal =>
      refine wpS_mono (k1 G' a' w' { c₀ with mode := u' } cs k3 k4 k7) ?_
      rintro e a2 cs2 w2 ⟨x, M2, env2, S2, G2, m1, m2, m3, m4, m5, m6, u2, rfl, m7⟩
      exact ⟨x, M2, env2, S2, G2, m1, m2, m3, m4, k5.trans m5, m6.trans k6, u2, rfl, m7⟩
    | _ => exact k2.elim
  | exit i =>
    cases e with
    | exit j => exact ⟨.exit i, M', env', S', G', k1, k2, k3, k4, k5, k6, u', rfl, k7⟩
    | _ => exact k2.elim
  | ret =>
    cases e with
    | ret => exact ⟨.ret, M', env', S', G', k1, k2, k3, k4, k5, k6, u', rfl, k7⟩
    | _ => exact k2.elim
  | panic v =>
    cases e with
    | panic ch => exact ⟨.panic v, M', env', S', G', k1, k2, k3, k4, k5, k6, u', rfl, k7⟩
    | _ => exact k2.elim
def recA : DM → AV × DM
  | .pan v => (v, .back v)
  | M => (.c .nili, M)
def WOpsF (P : Program) (N : Nat) (Q : FQ) : List Oper → DM → Env → St → Prop
  | [], M, env, S => Q .normal M env S
  | o :: rest, M, env, S => dstOk N o.dst ∧ o.guard = none ∧
    ((∃ v cm, evalOp P o env S = some (.val v cm) ∧ WOpsF P N Q rest M (env.setO o.dst v) (S.run cm)) ∨
     ((∃ ats, o.op = .call { callee := .builtin .recover, args := #[], argTypes := ats }) ∧ WOpsF P N Q rest (recA M).2 (env.setO o.dst (recA M).1) S))
theorem wopsF_sound {P : Program} {N : Nat} {ops : List Oper} {Q : FQ} {G0 : Gh} {S0 : St} {w0 : World} {ds : List Deferred} {c₀ : Frame} {cs : List Frame} : ∀ (l : List Nat) (rest : List Oper) (M : DM) (env : Env) (S : St) (G : Gh) (a : Act) (w : World) (u : FrameMode),
    l.map (fun i => ops[i]?) = rest.map some → WOpsF P N Q rest M env S → EnvRel N G env a.tmps → Inv G S w → DMRel G M u → Ext G0 S0 w0 G S w → a.defers = ds →
    wpOpsS P ops.toArray (fun e a' cs' w' => ∃ x M' env' S' G', Q x M' env' S' ∧ XRel G' x e ∧ EnvRel N G' env' a'.tmps ∧ Inv G' S' w' ∧ Ext G0 S0 w0 G' S' w' ∧ a'.defers = ds ∧
      ∃ u', cs' = { c₀ with mode := u' } :: cs ∧ DMRel G' M' u') l a ({ c₀ with mode := u } :: cs) w
  | [], [], M, env, S, G, a, w, u, _, h, hE, hI, hM, hX, hd => ⟨.normal, M, env, S, G, h, trivial, hE, hI, hX, hd, u, rfl, hM⟩
  | [], _ :: _, _, _, _, _, _, _, _, hl, _, _, _, _, _, _ => by simp at hl
  | _ :: _, [], _, _, _, _, _, _, _, hl, _, _, _, _, _, _ => by simp at hl
  | i :: l, o :: rest, M, env, S, G, a, w, u, hl, h, hE, hI, hM, hX, hds => by
    simp only [List.map_cons, List.cons.injEq] at hl
    obtain ⟨ho, hl⟩ := hl
    simp only [WOpsF] at h
    obtain ⟨hd, hg, h⟩ := h
    have hoa : ops.toArray[i]? = some o := by simpa using ho
    have hw : Region.wanted o (yielded ops.toArray a.tmps) = true := by simp [Region.wanted, hg]
    simp only [wpOpsS, hoa, hw, if_true]
    rcases h with ⟨v, cm, he, h⟩ | ⟨⟨ats, he⟩, h⟩
    · obtain ⟨x, G', w', k1, k2, k3, k4⟩ := evalOp_sound (P := P) hI hE he
      rw [k1]
      simp only [Oper.upon]
      exact wopsF_sound l rest M _ _ G' (a.put o.dst x) w' u hl h ((hE.mono k4.le).put hd k2) k3 (hM.mono k4.le) (hX.trans k4) (by rw [put_defers]; exact hds)
    · have hrun : Sem.run P (execOp a.eval o) w = .ok .recover w := by
        obtain ⟨dst, op, type, pos, after, guard⟩ := o
        simp only at he
        subst he
        simp [execOp, resolve, invoke, builtin]
      rw [hrun]
      simp only
      cases M with
      | ret =>
        have hm : u = .returning := hM
        subst hm
        simp only [recoverD]
        exact wopsF_sound l rest .ret _ S G (a.put o.dst .nilIface) w .returning hl h (hE.put hd (.c .nili)) hI rfl hX (by rw [put_defers]; exact hds)
      | pan v =>
        obtain ⟨x, rfl, hx⟩ := hM
        simp only [recoverD]
        exact wopsF_sound l rest (.back v) _ S G (a.put o.dst x) w (.panicking [{ v := x, recovered := true }]) hl h (hE.put hd hx) hI ⟨x, rfl, hx⟩ hX (by rw [put_defers]; exact hds)
      | back v =>
        obtain ⟨x, rfl, hx⟩ := hM
        simp only [recoverD]
        exact wopsF_sound l rest (.back v) _ S G (a.put o.dst .nilIface) w (.panicking [{ v := x, recovered := true }]) hl h (hE.put hd (.c .nili)) hI ⟨x, rfl, hx⟩ hX (by rw [put_defers]; exact hds)
theorem wf_region {P : Program} {N : Nat} {id : Nat} {ops : Array Oper} {Q : FQ} {M : DM} {env : Env} {S : St} (h : WOpsF P N Q ops.toList M env S) : WF P N (.region id ops false) Q M env S := by
  intro G a w c₀ cs hE hI hM
  refine wpS_region ?_
  have := wopsF_sound (P := P) (ops := ops.toList) (ds := a.defers) (c₀ := c₀) (cs := cs) (List.range ops.size) ops.toList M env S G a w c₀.mode (by
    apply List.ext_getElem?
    intro i
    simp only [List.getElem?_map]
    by_cases hi : i < ops.size
    · simp [hi]
    · simp [Nat.not_lt.1 hi]) h hE hI hM (.refl G S w) rfl
  have e : ({ c₀ with mode := c₀.mode } : Frame) = c₀ := by cases c₀; rfl
  rw [e] at this
  simpa using this
theorem envRel_args {N : Nat} {G : Gh} {args : List AV} {vals : List Value} (hr : RelL G args vals) (hlen : args.length ≤ N) :
    EnvRel N G (envOf args 0) (vals.toArray ++ Array.replicate (N - vals.toArray.size) undef) := by
  have hvl : vals.length = args.length := hr.len.symm
  refine ⟨by simp; omega, fun t => ?_⟩
  show RelA G (envOf args 0 t) _
  rw [envOf_get]
  by_cases ht : 0 ≤ t ∧ t < 0 + args.length
  · rw [if_pos ht]
    have ht1 : t < args.length := by omega
    have ht2 : t < vals.length := by omega
    have e1 : args.getD (t - 0) .undef = args[t] := by simp [ht1]
    have e2 : (vals.toArray ++ Array.replicate (N - vals.toArray.size) undef).getD t undef = vals[t] := by
      rw [Array.getD_eq_getD_getElem?, Array.getElem?_append]
      simp [ht2]
    rw [e1, e2]
    exact hr.rel t args[t] vals[t] (by simp) (by simp)
  · rw [if_neg ht]; exact .undef
def bodyF (R : CX → DM → St → Prop) : FQ
  | .normal, M, _, S => R (.ret (.tup [])) M S
  | .ret, M, _, S => R (.ret (.tup [])) M S
  | .panic v, M, _, S => R (.panic v) M S
  | .exit _, _, _, _ => False
theorem wd_fn {P : Program} {f : FuncId} {fn : Func} {c : Code} {N : Nat} (hf : P.funcs[f]? = some fn) (hb : fn.body = some c) (hN : fn.ntmps = N) (hr : fn.results.toList = []) {args : List AV} {R : CX → DM → St → Prop} {M : DM} {S : St}
    (hlen : Nat.ble args.length N = true) (h : Shut S → WF P N c (bodyF R) M (envOf args 0) S) : WDc P f args R M S := by
  subst hN
  intro G vals w u hrel hI hM
  refine callsD_of_wpS hf hb fun c₀ cs hu => ?_
  subst hu
  refine wpS_mono (h (inv_shut hI) G _ w c₀ cs (envRel_args hrel (Nat.le_of_ble_eq_true hlen)) hI hM) ?_
  rintro e a' cs' w' ⟨x, M', env', S', G', k1, k2, k3, k4, k5, k6, u', rfl, k7⟩
  have hres : (results fn a'.tmps).run P w' = .ok (.tuple #[]) w' := by
    have : fn.results = #[] := by apply Array.ext'; simpa using hr
    simp [results, this]
  have hnil : RelA G' (.tup []) (.tuple #[]) := .tup (vs := []) rfl (fun i a b ha => by simp at ha)
  cases x with
  | normal =>
    cases e with
    | normal => exact ⟨k6, u', rfl, _, hres, .ret (.tup []), M', S', G', k1, hnil, k7, k4, k5⟩
    | _ => exact k2.elim
  | ret =>
    cases e with
    | ret => exact ⟨k6, u', rfl, _, hres, .ret (.tup []), M', S', G', k1, hnil, k7, k4, k5⟩
    | _ => exact k2.elim
  | exit i => exact k1.elim
  | panic v =>
    cases e with
    | panic ch =>
      obtain ⟨y, rfl, hy⟩ := k2
      exact ⟨k6, u', rfl, .panic v, M', S', G', k1, ⟨y, rfl, hy⟩, k7, k4, k5⟩
    | _ => exact k2.elim
def settled (P : Program) (rs : List ResultVar) (B : Nat) (R : CX → St → Prop) (env : Env) (x : CX) (M : DM) (S : St) : Prop :=
  match x, M with
  | .ret _, .ret => endR P B R S (resAs P env S rs)
  | .ret _, .back _ => endR P B R S (resAs P env S rs)
  | .ret _, .pan v => R (.panic v) S
  | .panic v, .ret => R (.panic v) S
  | _, _ => False
def bodyE (P : Program) (rs : List ResultVar) (B : Nat) (R : CX → St → Prop) : EQ
  | .normal, [], env, S => endR P B R S (resAs P env S rs)
  | .ret, [], env, S => endR P B R S (resAs P env S rs)
  | .panic v, [], _, S => R (.panic v) S
  | .normal, [(f, aq)], env, S => (∀ vals w, Sem.run P (callFunc f vals) w = .ok (.enter f vals) w) ∧ WDc P f aq (settled P rs B R env) .ret S
  | .ret, [(f, aq)], env, S => (∀ vals w, Sem.run P (callFunc f vals) w = .ok (.enter f vals) w) ∧ WDc P f aq (settled P rs B R env) .ret S
  | .panic v, [(f, aq)], env, S => (∀ vals w, Sem.run P (callFunc f vals) w = .ok (.enter f vals) w) ∧ WDc P f aq (settled P rs B R env) (.pan v) S
  | _, _, _, _ => False
theorem wc_fn_defer {P : Program} {f : FuncId} {fn : Func} {c : Code} {N : Nat} {rs : List ResultVar} (hf : P.funcs[f]? = some fn) (hn : (fn.name == "runtime.NumGoroutine") = false) (hb : fn.body = some c)
    (hN : fn.ntmps = N) (hr : fn.results.toList = rs) {args : List AV} {R : CX → St → Prop} {S : St} (hlen : Nat.ble args.length N = true) (h : Shut S → WE P N c (bodyE P rs S.next R) [] (envOf args 0) S) : WC P f args R S := by
  subst hN; subst hr
  intro G vals w hrel hI
  have hrun : Sem.run P (callFunc f vals.toArray) w = .ok (.enter f vals.toArray) w := by
    have hn' : ¬ fn.name = "runtime.NumGoroutine" := by simpa using hn
    simp [callFunc, program, hf, hn', hb, Sem.run]
  unfold Upon
  rw [hrun]
  simp only
  refine calls_of_wp_defers hf hb ?_
  refine wp_mono (h (inv_shut hI) G _ w (envRel_args hrel (Nat.le_of_ble_eq_true hlen)) hI (.nil G)) ?_
  rintro e a w' ⟨x, D, env', S', G', k1, k2, k3, k4, k5, k6⟩
  have fin : ∀ {G2 : Gh} {S2 : St} {w2 : World}, EnvRel fn.ntmps G2 env' a.tmps → Inv G2 S2 w2 → Ext G S w G2 S2 w2 → endR P S.next R S2 (resAs P env' S2 fn.results.toList) →
      ∃ v, (results fn a.tmps).run P w2 = .ok v w2 ∧ CPost G S w R (.returned v) w2 := by
    intro G2 S2 w2 hE2 hI2 hX2 hR
    have hR' := endR_resultA (fn := fn) hR
    split at hR'
    · rename_i v hv
      obtain ⟨y, y1, y2⟩ := resultA_sound (P := P) hE2 hI2 hv
      exact ⟨y, y1, ends_sound hI hI2 hX2 y2 hR'⟩
    · exact hR'.elim
  have dfr : ∀ {M : DM} {u : FrameMode} {g : FuncId} {aq : List AV}, DMRel G' M u → u ≠ .run → D = [(g, aq)] → (∀ vals w, Sem.run P (callFunc g vals) w = .ok (.enter g vals) w) → WDc P g aq (settled P fn.results.toList S.next R env') M S' →
      Leaves P fn a.tmps (CPost G S w R) a.defers u w' := by
    intro M u g aq hM hu hD hg hW
    subst hD
    obtain ⟨d, caps, hd, ht, hrel'⟩ := drel_one k6
    rw [hd]
    obtain ⟨tgt, dargs⟩ := d
    simp only at ht hrel'
    subst ht
    refine leaves_cons (f := g) (args := dargs ++ caps) hu (by simp only [invoke]; exact hg _ _) ?_
    have := hW G' (dargs ++ caps).toList w' u hrel' k4 hM
    simp only [Array.toArray_toList] at this
    refine this.mono ?_
    rintro e2 u2 w2 ⟨x2, M2, S2, G2, m1, m2, m3, m4, m5⟩
    have hX2 := k5.trans m5
    have hE2 := k3.mono m5.le
    cases x2 with
    | ret v =>
      cases e2 with
      | returned y =>
        cases M2 with
        | ret =>
          have : u2 = .returning := m3
          subst this
          exact fin hE2 m4 hX2 m1
        | back v2 =>
          obtain ⟨z, rfl, hz⟩ := m3
          show Leaves P fn a.tmps (CPost G S w R) [] (settle (.panicking [{ v := z, recovered := true }])) w2
          exact fin hE2 m4 hX2 m1
        | pan v2 =>
          obtain ⟨z, rfl, hz⟩ := m3
          exact ⟨.panic v2, S2, G2, m1, ⟨z, rfl, hz⟩, m4, hX2⟩
      | panicked ch => exact m2.elim
      | outgrown => exact m2.elim
    | panic v =>
      cases e2 with
      | returned y => exact m2.elim
      | panicked ch =>
        cases M2 with
        | ret =>
          have : u2 = .returning := m3
          subst this
          obtain ⟨z, rfl, hz⟩ := m2
          exact ⟨.panic v, S2, G2, m1, ⟨z, rfl, hz⟩, m4, hX2⟩
        | back v2 => exact m1.elim
        | pan v2 => exact m1.elim
      | outgrown => exact m2.elim
  have none' : D = [] → a.defers = [] := fun hD => by subst hD; exact drel_nil k6
  cases x with
  | normal =>
    cases e with
    | normal =>
      match D, k1, none', @dfr with
      | [], k1, none', _ =>
        show Leaves P fn a.tmps (CPost G S w R) a.defers .returning w'
        rw [none' rfl]
        exact fin k3 k4 k5 k1
      | [(g, aq)], k1, _, dfr => exact dfr (M := .ret) rfl (by simp) rfl k1.1 k1.2
      | _ :: _ :: _, k1, _, _ => exact k1.elim
    | _ => exact k2.elim
  | ret =>
    cases e with
    | ret =>
      match D, k1, none', @dfr with
      | [], k1, none', _ =>
        show Leaves P fn a.tmps (CPost G S w R) a.defers .returning w'
        rw [none' rfl]
        exact fin k3 k4 k5 k1
      | [(g, aq)], k1, _, dfr => exact dfr (M := .ret) rfl (by simp) rfl k1.1 k1.2
      | _ :: _ :: _, k1, _, _ => exact k1.elim
    | _ => exact k2.elim
  | exit i => match D, k1 with | [], k1 => exact k1.elim | [(g, aq)], k1 => exact k1.elim | _ :: _ :: _, k1 => exact k1.elim
  | panic v =>
    cases e with
    | panic ch =>
      obtain ⟨y, rfl, hy⟩ := k2
      match D, k1, none', @dfr with
      | [], k1, none', _ =>
        show Leaves P fn a.tmps (CPost G S w R) a.defers (.panicking [{ v := y, recovered := false }]) w'
        rw [none' rfl]
        exact ⟨.panic v, S', G', k1, ⟨y, rfl, hy⟩, k4, k5⟩
      | [(g, aq)], k1, _, dfr => exact dfr (M := .pan v) ⟨y, rfl, hy⟩ (by simp) rfl k1.1 k1.2
      | _ :: _ :: _, k1, _, _ => exact k1.elim
    | _ => exact k2.elim
end Go.Abs

namespace Go.Abs
end Go.Abs
