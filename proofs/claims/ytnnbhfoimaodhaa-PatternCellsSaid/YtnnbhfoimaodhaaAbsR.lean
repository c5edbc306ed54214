/-
  The abstract machine, part R: an operation's function is what the model's operation does.
-/
import Derived.Test.YtnnbhfoimaodhaaAbsQ
namespace Go.Abs
set_option linter.unusedVariables false
set_option linter.unusedSimpArgs false

def OpSound (P : Program) (o : Oper) (a : Act) (G : Gh) (S : St) (w : World) : Res → Prop
  | .val v cm => ∃ x G' w', Sem.run P (execOp a.eval o) w = .ok (.value x) w' ∧ RelA G' v x ∧ Inv G' (S.run cm) w' ∧ Ext G S w G' (S.run cm) w'
  | .skip cm => ∃ G' w', Sem.run P (execOp a.eval o) w = .ok .skip w' ∧ Inv G' (S.run cm) w' ∧ Ext G S w G' (S.run cm) w'
  | .call f args => ∃ vals : List Value, Sem.run P (execOp a.eval o) w = Sem.run P (callFunc f vals.toArray) w ∧ RelL G args vals
  | .pan v => ∃ x, Sem.run P (execOp a.eval o) w = .halt (.panic x) w ∧ RelA G v x
  | .any l => ∃ p ∈ l, ∃ x G' w', Sem.run P (execOp a.eval o) w = .ok (.value x) w' ∧ RelA G' p.1 x ∧ Inv G' (S.run p.2) w' ∧ Ext G S w G' (S.run p.2) w'

theorem callee_rel {G : Gh} {g : AV} {x : Value} {f : FuncId} {first caps : List AV} (h : calleeA g = some (f, first, caps)) (hx : RelA G g x) :
    ∃ fs cs : List Value, x = .func (.func f) fs.toArray cs.toArray ∧ RelL G first fs ∧ RelL G caps cs := by
  unfold calleeA at h
  split at h
  · cases h
    cases relA_c hx
    exact ⟨[], [], rfl, ⟨rfl, fun i a b ha => by simp at ha⟩, ⟨rfl, fun i a b ha => by simp at ha⟩⟩
  · cases h
    cases hx with
    | clo hf hc h1 h2 => exact ⟨_, _, rfl, ⟨hf, h1⟩, ⟨hc, h2⟩⟩
  · cases h

theorem mkClo_rel {G : Gh} {f : FuncId} {first caps : List AV} {fs cs : List Value} (h1 : RelL G first fs) (h2 : RelL G caps cs) :
    RelA G (mkClo f first caps) (.func (.func f) fs.toArray cs.toArray) := by
  unfold mkClo
  split
  · have e1 : fs = [] := List.eq_nil_of_length_eq_zero (by simpa using h1.len.symm)
    have e2 : cs = [] := List.eq_nil_of_length_eq_zero (by simpa using h2.len.symm)
    subst e1; subst e2
    exact .c (.fn f)
  · exact .clo h1.len h2.len h1.rel h2.rel

theorem isRef_check {G : Gh} {v : AV} {x : Value} (h : RelA G v x) (hr : v.isRef = true) : ∃ a, x = .pointer (some a) := by
  cases h with
  | ref h => exact ⟨_, rfl⟩
  | fref hF hR => exact ⟨_, rfl⟩
  | gref g => exact ⟨_, rfl⟩
  | _ => simp [AV.isRef] at hr

theorem builtin_sound {P : Program} {G : Gh} {S : St} {w : World} (h : Inv G S w) {b : Builtin} {ts : Array TypeId} {ty : TypeId} {cst : Array Bool} {args : List AV} {vals : List Value} {v : AV}
    {cm : List Cmd} (he : aBuiltin P b ts.toList args S = some (v, cm)) (hr : RelL G args vals) :
    ∃ z G' w', Sem.run P (builtin b ts ty cst vals.toArray) w = .ok (.value z) w' ∧ RelA G' v z ∧ Inv G' (S.run cm) w' ∧ Ext G S w G' (S.run cm) w' := by
  have one : ∀ {x : AV}, args = [x] → ∃ vx, vals = [vx] ∧ RelA G x vx := fun {x} e => by
    subst e
    match vals, hr with
    | [vx], hr => exact ⟨vx, rfl, hr.rel 0 _ _ rfl rfl⟩
    | [], hr => have := hr.len; simp at this
    | _ :: _ :: _, hr => have := hr.len; simp at this
  have two : ∀ {x y : AV}, args = [x, y] → ∃ vx vy, vals = [vx, vy] ∧ RelA G x vx ∧ RelA G y vy := fun {x y} e => by
    subst e
    match vals, hr with
    | [vx, vy], hr => exact ⟨vx, vy, rfl, hr.rel 0 _ _ rfl rfl, hr.rel 1 _ _ rfl rfl⟩
    | [], hr => have := hr.len; simp at this
    | [_], hr => have := hr.len; simp at this
    | _ :: _ :: _ :: _, hr => have := hr.len; simp at this
  have hts : ∀ l : List TypeId, ts.toList = l → ts = l.toArray := fun l e => by rw [← e]
  unfold aBuiltin at he
  split at he
  · rename_i t x hl
    obtain ⟨vx, rfl, hx⟩ := one rfl
    simp only [Option.map_eq_some_iff, Prod.mk.injEq] at he
    obtain ⟨n, hn, rfl, rfl⟩ := he
    rw [hts _ hl]
    refine ⟨_, G, w, ?_, .c (.int _ _), h, .refl G S w⟩
    simp only [builtin, Sem.run_bind, len_sound h hn hx, Result.andThen_ok]
    rfl
  · rename_i t t' x y hl
    obtain ⟨vx, vy, rfl, hx, hy⟩ := two rfl
    rw [hts _ hl]
    obtain ⟨z, G', w', k1, k2, k3, k4⟩ := append_sound (P := P) (ty := ty) h he hx hy
    refine ⟨z, G', w', ?_, k2, k3, k4⟩
    simp only [builtin, Sem.run_bind, k1, Result.andThen_ok]
    rfl
  · rename_i t t' x y hl
    obtain ⟨vx, vy, rfl, hx, hy⟩ := two rfl
    rw [hts _ hl]
    obtain ⟨z, w', k1, k2, k3, k4⟩ := copy_sound (P := P) (ty := ty) h he hx hy
    refine ⟨z, G, w', ?_, k2, k3, k4⟩
    simp only [builtin, Sem.run_bind, k1, Result.andThen_ok]
    rfl
  · obtain ⟨vx, vy, rfl, hx, hy⟩ := two rfl
    split at he
    · rename_i hk
      subst hk
      cases he
      cases relA_c hx; cases relA_c hy
      refine ⟨.int _ (min _ _), G, w, ?_, .c (.int _ _), h, .refl G S w⟩
      have : ∀ a b : Int, (if b < a then b else a) = min a b := fun a b => by simp only [Int.min_def]; split <;> split <;> omega
      simp [builtin, Builtin.min_, Builtin.min2, this]
    · cases he
  · obtain ⟨vx, vy, rfl, hx, hy⟩ := two rfl
    split at he
    · rename_i hk
      subst hk
      cases he
      cases relA_c hx; cases relA_c hy
      refine ⟨.int _ (max _ _), G, w, ?_, .c (.int _ _), h, .refl G S w⟩
      have : ∀ a b : Int, (if a < b then b else a) = max a b := fun a b => by simp only [Int.max_def]; split <;> split <;> omega
      simp [builtin, Builtin.max_, Builtin.max2, this]
    · cases he
  · cases he

theorem evalOp_sound {P : Program} {N : Nat} {G : Gh} {S : St} {w : World} {env : Env} {a : Act} {o : Oper} {r : Res} (hI : Inv G S w) (hE : EnvRel N G env a.tmps)
    (he : evalOp P o env S = some r) : OpSound P o a G S w r := by
  obtain ⟨dst, op, ty, pos, after, guard⟩ := o
  have R := fun {x : Operand} {v : AV} (h : opnd env x = some v) => opnd_rel hE h
  unfold evalOp at he
  cases op <;> simp only [evMove, evPick, evAlloc, evBox, evBuild, evBuildSlice, evLoad, evStore, evNilCheck, evBinOp, evUnOp, evConvert, evMakeInterface, evMakeFunc, evMakeMap, evMakeSlice, evSlice, evFieldAddr, evField, evIndexAddr, evIndex, evLookup, evMapUpdate, evRange, evNextStr, evNextMap, evEntry, evTypeAssert, evExtract, evPanic, evBuiltin, evCall] at he
  case move x =>
    simp only [Option.map_eq_some_iff] at he
    obtain ⟨v, hv, rfl⟩ := he
    exact ⟨_, G, w, rfl, R hv, hI, .refl G S w⟩
  case assign x =>
    simp only [Option.map_eq_some_iff] at he
    obtain ⟨v, hv, rfl⟩ := he
    exact ⟨_, G, w, rfl, R hv, hI, .refl G S w⟩
  case pick c x y =>
    split at he
    · rename_i t hc
      simp only [Option.map_eq_some_iff] at he
      obtain ⟨v, hv, rfl⟩ := he
      have hcb := relA_c (R hc)
      refine ⟨a.eval (bif t then x else y), G, w, ?_, R hv, hI, .refl G S w⟩
      have : a.eval c = .bool t := by generalize a.eval c = z at hcb; cases hcb; rfl
      cases t <;> simp [execOp, this, asBool]
    · cases he
  case alloc t =>
    split at he
    · rename_i z hz
      simp only [Option.map_eq_some_iff] at he
      obtain ⟨r, hr, rfl⟩ := he
      obtain ⟨x, G', w', k1, k2, k3, k4⟩ := alloc_sound (P := P) hI hz hr
      exact ⟨x, G', w', by simp [execOp, k1], k2, k3, k4⟩
    · cases he
  case box t x =>
    split at he
    · rename_i v hv
      simp only [Option.map_eq_some_iff] at he
      obtain ⟨r, hr, rfl⟩ := he
      obtain ⟨G', w', k1, k2, k3, k4⟩ := new_sound (P := P) hI hr (R hv)
      exact ⟨_, G', w', by simp [execOp, Instr.box, k1], k2, k3, k4⟩
    · cases he
  case build t ps =>
    split at he
    · rename_i z l hz hl
      split at he
      · rename_i hok
        simp only [Option.map_eq_some_iff] at he
        obtain ⟨cs, hcs, rfl⟩ := he
        obtain ⟨p1, p2⟩ := partsA_rel hE hl
        obtain ⟨x, k1, k2⟩ := build_sound (P := P) (G := G) (qs := ps.toList.map fun p => (p.1, a.eval p.2)) hz hok hcs (by simp [p1]) (fun i p q hp hq => by
          rw [List.getElem?_map, Option.map_eq_some_iff] at hq
          obtain ⟨q', hq', rfl⟩ := hq
          exact p2 i p q' hp hq') w
        refine ⟨x, G, w, ?_, k2, hI, .refl G S w⟩
        have e1 : (ps.map fun (p : Nat × Operand) => match p with | (i, x) => (i, a.eval x)) = (ps.toList.map fun p => (p.1, a.eval p.2)).toArray := by
          apply Array.ext'; simp
        simp only [execOp]
        rw [e1]
        simp [k1]
      · cases he
    · cases he
  case buildSlice t n ps =>
    split at he
    · rename_i e hu
      split at he
      · rename_i s z l hs hz hl
        split at he
        · rename_i hc
          split at he
          · rename_i cs hcs
            split at he
            · rename_i hsc
              cases he
              obtain ⟨p1, p2⟩ := partsA_rel hE hl
              obtain ⟨x, G', w', k1, k2, k3, k4⟩ := buildSlice_sound (P := P) (qs := ps.toList.map fun p => (p.1, a.eval p.2)) hI hu hs hz hc.1 hc.2.1 hc.2.2 hcs hsc (by simp [p1]) (fun i p q hp hq => by
                rw [List.getElem?_map, Option.map_eq_some_iff] at hq
                obtain ⟨q', hq', rfl⟩ := hq
                exact p2 i p q' hp hq')
              refine ⟨x, G', w', ?_, k2, k3, k4⟩
              have e1 : (ps.map fun (p : Nat × Operand) => match p with | (i, x) => (i, a.eval x)) = (ps.toList.map fun p => (p.1, a.eval p.2)).toArray := by
                apply Array.ext'; simp
              simp only [execOp]
              rw [e1]
              simp [k1]
            · cases he
          · cases he
        · cases he
      · cases he
    · cases he
  case load t x =>
    split at he
    · rename_i v hv
      simp only [Option.map_eq_some_iff] at he
      obtain ⟨r, hr, rfl⟩ := he
      obtain ⟨x, k1, k2⟩ := load_sound (P := P) hI hr (R hv)
      exact ⟨x, G, w, by simp [execOp, k1], k2, hI, .refl G S w⟩
    · cases he
  case store t x y =>
    split at he
    · rename_i p v hp hv
      simp only [Option.map_eq_some_iff] at he
      obtain ⟨r, hr, rfl⟩ := he
      obtain ⟨w', k1, k2, k3⟩ := store_sound (P := P) hI hr (R hp) (R hv)
      exact ⟨G, w', by simp [execOp, k1], k2, k3⟩
    · cases he
  case nilCheck x =>
    split at he
    · rename_i v hv
      split at he
      · rename_i hr
        cases he
        obtain ⟨q, hq⟩ := isRef_check (R hv) hr
        refine ⟨a.eval x, G, w, ?_, R hv, hI, .refl G S w⟩
        simp [execOp, hq]
      · cases he
    · cases he
  case binOp op t x y yt =>
    split at he
    · rename_i p q hp hq
      simp only [Option.map_eq_some_iff] at he
      obtain ⟨v, hv, rfl⟩ := he
      obtain ⟨z, k1, k2⟩ := bin_sound (P := P) hv (R hp) (R hq) x y w
      refine ⟨z, G, w, ?_, k2, hI, .refl G S w⟩
      simp only [execOp, Sem.run_bind] at k1 ⊢
      rw [k1]; rfl
    · cases he
  case unOp op t x =>
    split at he
    · rename_i p hp
      simp only [Option.map_eq_some_iff] at he
      obtain ⟨v, hv, rfl⟩ := he
      obtain ⟨z, k1, k2⟩ := un_sound (P := P) hv (R hp) w
      exact ⟨z, G, w, by simp [execOp, k1], k2, hI, .refl G S w⟩
    · cases he
  case convert src dst x =>
    split at he
    · rename_i p hp
      simp only [Option.map_eq_some_iff] at he
      obtain ⟨⟨v, S'⟩, hv, rfl⟩ := he
      obtain ⟨z, G', w', k1, k2, k3, k4⟩ := conv_sound (P := P) hI hv (R hp)
      exact ⟨z, G', w', by simp [execOp, k1], k2, k3, k4⟩
    · cases he
  case makeInterface t x =>
    split at he
    · cases he
    · rename_i p d hni hp hd
      cases he
      refine ⟨.iface t (a.eval x), G, w, ?_, mkIface_rel (R hp), hI, .refl G S w⟩
      have : ∀ ms, d ≠ .interface ms := fun ms e => hni ms (by rw [e])
      cases d <;> first | exact absurd rfl (this _) | simp [execOp, Instr.makeInterface, run_underlying P hd]
    · cases he
  case makeFunc fn first caps =>
    cases fn with
    | func f =>
      simp only at he
      split at he
      · rename_i l m hl hm
        cases he
        have r1 := opnds_rel hE hl
        have r2 := opnds_rel hE hm
        refine ⟨_, G, w, ?_, mkClo_rel r1 r2, hI, .refl G S w⟩
        have e1 : first.map a.eval = (first.toList.map a.eval).toArray := by apply Array.ext'; simp
        have e2 : caps.map a.eval = (caps.toList.map a.eval).toArray := by apply Array.ext'; simp
        simp only [execOp, Instr.makeFunc, e1, e2]
        rfl
      · cases he
    | _ => simp at he
  case makeMap t r =>
    cases r with
    | none =>
      simp only [Option.some.injEq] at he
      subst he
      obtain ⟨x, G', w', k1, k2, k3, k4⟩ := makeMap_sound (P := P) hI t
      exact ⟨x, G', w', by simp only [execOp, Option.map_none, Sem.run_bind, k1]; rfl, k2, k3, k4⟩
    | some r => simp at he
  case makeSlice t x y =>
    split at he
    · rename_i p q e hp hq hu
      split at he
      · rename_i i z hi hz
        split at he
        · rename_i hc
          cases he
          have ha := relA_c (R hp)
          have hb := relA_c (R hq)
          obtain ⟨v, G', w', k1, k2, k3, k4⟩ := makeSlice_sound (P := P) hI hu hi hz hc.1 hc.2.1 hc.2.2.1 hc.2.2.2.1 hc.2.2.2.2.1 hc.2.2.2.2.2
          refine ⟨v, G', w', ?_, k2, k3, k4⟩
          have ea : a.eval x = .int .i64 p := by generalize a.eval x = z at ha; cases ha; rfl
          have eb : a.eval y = .int .i64 q := by generalize a.eval y = z at hb; cases hb; rfl
          simp only [execOp, ea, eb, Sem.run_bind, k1]; rfl
        · cases he
      · cases he
    · cases he
  case slice t x lo hi mx =>
    split at he
    · rename_i p l h m hp hl hh hm
      simp only [Option.map_eq_some_iff] at he
      obtain ⟨v, hv, rfl⟩ := he
      obtain ⟨y, k1, k2⟩ := slice_sound (P := P) hI hv (R hp) (optA_rel hE hl) (optA_rel hE hh) (optA_rel hE hm)
      exact ⟨y, G, w, by simp only [execOp, Sem.run_bind, k1]; rfl, k2, hI, .refl G S w⟩
    · cases he
  case fieldAddr t x f =>
    split at he
    · rename_i b off T d hx hf
      split at he
      · rename_i n hn
        cases he
        have hr := R hx
        have : ∃ B : Base, a.eval x = .pointer (some ⟨B.g, B.o + off, none⟩) ∧ G.ρ b = some B := by
          generalize a.eval x = z at hr
          cases hr with
          | ref hB => exact ⟨_, rfl, hB⟩
        obtain ⟨B, h1, hB⟩ := this
        refine ⟨.pointer (some ⟨B.g, B.o + off + d, none⟩), G, w, ?_, ?_, hI, .refl G S w⟩
        · simp only [execOp, h1, Sem.run_bind, fieldAt_run hf hn]; rfl
        · have := RelA.ref (G := G) (b := b) (off := off + d) hB
          simpa [Nat.add_assoc] using this
      · cases he
    · rename_i e off T d hx hf
      split at he
      · rename_i n hn
        cases he
        have hr := R hx
        have : ∃ g o, a.eval x = .pointer (some ⟨g, o + off, none⟩) ∧ RelA G (.fref e (off + d)) (.pointer (some ⟨g, o + (off + d), none⟩)) := by
          generalize a.eval x = z at hr
          cases hr with
          | fref hF hR => exact ⟨_, _, rfl, .fref hF hR⟩
        obtain ⟨g, o, h1, h2⟩ := this
        refine ⟨.pointer (some ⟨g, o + off + d, none⟩), G, w, ?_, by simpa [Nat.add_assoc] using h2, hI, .refl G S w⟩
        simp only [execOp, h1, Sem.run_bind, fieldAt_run hf hn]; rfl
      · cases he
    · cases he
  case field t x f =>
    split at he
    · rename_i cs T d hx hf
      simp only [Option.map_eq_some_iff] at he
      obtain ⟨v, hv, rfl⟩ := he
      obtain ⟨vs, h1, h2⟩ := agg_rel_of (R hx)
      obtain ⟨y, k1, k2⟩ := field_sound (P := P) hf hv h2 w
      exact ⟨y, G, w, by simp only [execOp, h1, Sem.run_bind, k1]; rfl, k2, hI, .refl G S w⟩
    · rename_i cs T d hx hf
      simp only [Option.map_eq_some_iff] at he
      obtain ⟨v, hv, rfl⟩ := he
      have hr := R hx
      have : ∃ vs : List Value, a.eval x = .agg vs.toArray ∧ RelL G cs vs := by
        generalize a.eval x = z at hr
        cases hr with
        | agg hl h => exact ⟨_, rfl, hl, h⟩
      obtain ⟨vs, h1, h2⟩ := this
      obtain ⟨y, k1, k2⟩ := field_sound (P := P) hf hv h2 w
      exact ⟨y, G, w, by simp only [execOp, h1, Sem.run_bind, k1]; rfl, k2, hI, .refl G S w⟩
    · cases he
  case indexAddr t x i =>
    split at he
    · rename_i p q hp hq
      simp only [Option.map_eq_some_iff] at he
      obtain ⟨v, hv, rfl⟩ := he
      obtain ⟨y, k1, k2⟩ := indexAddr_sound (P := P) hv (R hp) (R hq) w
      exact ⟨y, G, w, by simp only [execOp, Sem.run_bind, k1]; rfl, k2, hI, .refl G S w⟩
    · cases he
  case index t x i =>
    split at he
    · rename_i p q hp hq
      simp only [Option.map_eq_some_iff] at he
      obtain ⟨v, hv, rfl⟩ := he
      obtain ⟨y, k1, k2⟩ := index_sound (P := P) hv (R hp) (R hq) w
      exact ⟨y, G, w, by simp only [execOp, Sem.run_bind, k1]; rfl, k2, hI, .refl G S w⟩
    · cases he
  case lookup t m k ok =>
    split at he
    · rename_i p q hp hq
      simp only [Option.map_eq_some_iff] at he
      obtain ⟨v, hv, rfl⟩ := he
      obtain ⟨y, k1, k2⟩ := lookup_sound (P := P) hI hv (R hp) (R hq)
      exact ⟨y, G, w, by simp only [execOp, Sem.run_bind, k1]; rfl, k2, hI, .refl G S w⟩
    · cases he
  case mapUpdate t m k v =>
    split at he
    · rename_i p q x hp hq hx
      simp only [Option.map_eq_some_iff] at he
      obtain ⟨S', hS, rfl⟩ := he
      obtain ⟨w', k1, k2, k3⟩ := mapUpdate_sound (P := P) hI hS (R hp) (R hq) (R hx)
      exact ⟨G, w', by simp only [execOp, Sem.run_bind, k1]; rfl, k2, k3⟩
    · cases he
  case insert t m k v =>
    split at he
    · rename_i p q x hp hq hx
      simp only [Option.map_eq_some_iff] at he
      obtain ⟨S', hS, rfl⟩ := he
      obtain ⟨w', k1, k2, k3⟩ := mapUpdate_sound (P := P) hI hS (R hp) (R hq) (R hx)
      exact ⟨G, w', by simp only [execOp, Sem.run_bind, k1]; rfl, k2, k3⟩
    · cases he
  case range t x =>
    split at he
    · rename_i s hu hx
      cases he
      obtain ⟨y, G', w', k1, k2, k3, k4⟩ := range_sound (P := P) hI hu (R hx)
      exact ⟨y, G', w', by simp only [execOp, Sem.run_bind, k1]; rfl, k2, k3, k4⟩
    · rename_i kt et hu hx
      cases he
      obtain ⟨y, G', w', k1, k2, k3, k4⟩ := rangeNil_sound (P := P) hI hu (R hx)
      exact ⟨y, G', w', by simp only [execOp, Sem.run_bind, k1]; rfl, k2, k3, k4⟩
    · rename_i kt et b hu hx
      split at he
      · rename_i es born clock hb
        cases he
        obtain ⟨y, G', w', k1, k2, k3, k4⟩ := rangeMap_sound (P := P) hI hu hb (R hx)
        exact ⟨y, G', w', by simp only [execOp, Sem.run_bind, k1]; rfl, k2, k3, k4⟩
      · cases he
    · cases he
  case next x isString =>
    cases isString with
    | false =>
      simp only at he
      split at he
      · rename_i b hx
        unfold aNextMap at he
        split at he
        · rename_i hb
          cases he
          obtain ⟨y, k1, k2⟩ := nextNil_sound (P := P) (ty := ty) hI hb (R hx)
          exact ⟨y, G, w, by simp only [execOp, Sem.run_bind, k1]; rfl, k2, hI, .refl G S w⟩
        · rename_i m clock seen hb
          unfold aNextIn at he
          split at he
          · rename_i es born ck hm
            split at he
            · rename_i hc
              obtain ⟨rfl, hc2⟩ := hc
              obtain ⟨n1, n2⟩ := nextMap_sound (P := P) (ty := ty) hI hb hm hc2 (R hx)
              cases he
              unfold nextRes
              split
              · rename_i hl
                obtain ⟨y, k1, k2⟩ := n1 hl
                exact ⟨y, G, w, by simp only [execOp, Sem.run_bind, k1]; rfl, k2, hI, .refl G S w⟩
              · rename_i l hl
                obtain ⟨p, hp, y, w', k1, k2, k3, k4⟩ := n2 hl
                exact ⟨_, List.mem_map.2 ⟨p, hp, rfl⟩, y, G, w', by simp only [execOp, Sem.run_bind, k1]; rfl, k2, k3, k4⟩
            · cases he
          · cases he
        · cases he
      · cases he
    | true =>
      simp only at he
      split at he
      · rename_i b hx
        split at he
        · rename_i s pos hb
          have := next_sound (P := P) (ty := ty) hI hb (R hx)
          split at he
          · rename_i hp
            cases he
            rw [if_pos hp] at this
            obtain ⟨y, w', k1, k2, k3, k4⟩ := this
            exact ⟨y, G, w', by simp only [execOp, Sem.run_bind, k1]; rfl, k2, k3, k4⟩
          · rename_i hp
            cases he
            rw [if_neg hp] at this
            obtain ⟨y, k1, k2⟩ := this
            exact ⟨y, G, w, by simp only [execOp, Sem.run_bind, k1]; rfl, k2, hI, .refl G S w⟩
        · cases he
      · cases he
  case entry x =>
    split at he
    · rename_i b hx
      unfold aEntry at he
      split at he
      · rename_i m clock seen hb
        unfold aEntryIn at he
        split at he
        · rename_i es born ck hm
          split at he
          · rename_i n hn
            split at he
            · rename_i hc
              subst hc
              simp only [Option.map_eq_some_iff] at he
              obtain ⟨p, hp, rfl⟩ := he
              obtain ⟨y, k1, k2⟩ := entry_sound (P := P) hI hb hm hn hp (R hx)
              exact ⟨y, G, w, by simp only [execOp, Sem.run_bind, k1]; rfl, k2, hI, .refl G S w⟩
            · cases he
          · cases he
        · cases he
      · cases he
    · cases he
  case typeAssert x xt T ok =>
    split at he
    · rename_i p hp
      simp only [Option.map_eq_some_iff] at he
      obtain ⟨v, hv, rfl⟩ := he
      obtain ⟨y, k1, k2⟩ := assert_sound (P := P) (xT := xt) hv (R hp) w
      exact ⟨y, G, w, by simp only [execOp, Sem.run_bind, k1]; rfl, k2, hI, .refl G S w⟩
    · cases he
  case extract x i =>
    split at he
    · rename_i l hx
      simp only [Option.map_eq_some_iff] at he
      obtain ⟨v, hv, rfl⟩ := he
      have hr := R hx
      have : ∃ vs : List Value, a.eval x = .tuple vs.toArray ∧ RelL G l vs := by
        generalize a.eval x = z at hr
        cases hr with
        | tup hl h => exact ⟨_, rfl, hl, h⟩
      obtain ⟨vs, h1, h2⟩ := this
      obtain ⟨y, hy, hry⟩ := relL_cell h2 hv
      refine ⟨y, G, w, ?_, hry, hI, .refl G S w⟩
      simp [execOp, h1, Instr.extract, hy]
    · cases he
  case panic x =>
    split at he
    · rename_i t v hx
      cases he
      have hr := R hx
      have : ∃ y, a.eval x = .iface t y := by
        generalize a.eval x = z at hr
        cases relA_c hr with
        | iface _ _ y _ => exact ⟨y, rfl⟩
      obtain ⟨y, h1⟩ := this
      refine ⟨a.eval x, ?_, hr⟩
      simp only [execOp, h1, Instr.panic]
      rfl
    · rename_i t v hx
      cases he
      have hr := R hx
      have : ∃ y, a.eval x = .iface t y := by
        generalize a.eval x = z at hr
        cases hr with
        | iface _ => exact ⟨_, rfl⟩
      obtain ⟨y, h1⟩ := this
      refine ⟨a.eval x, ?_, hr⟩
      simp only [execOp, h1, Instr.panic]
      rfl
    · cases he
  case call c =>
    obtain ⟨callee, args, argTypes⟩ := c
    cases callee with
    | builtin b =>
      simp only at he
      split at he
      · rename_i l hl
        simp only [Option.map_eq_some_iff] at he
        obtain ⟨⟨v, S'⟩, hv, rfl⟩ := he
        have hr := opnds_rel hE hl
        obtain ⟨z, G', w', k1, k2, k3, k4⟩ := builtin_sound (P := P) (ty := ty) (cst := args.map fun | .const _ => true | _ => false) hI hv hr
        refine ⟨z, G', w', ?_, k2, k3, k4⟩
        have e1 : args.map a.eval = (args.toList.map a.eval).toArray := by apply Array.ext'; simp
        simp only [execOp, resolve, Sem.run_bind, Sem.run_pure, Result.andThen_ok, invoke, e1]
        exact k1
      · cases he
    | value f =>
      simp only at he
      split at he
      · rename_i g l hg hl
        split at he
        · rename_i fid first caps hcal
          cases he
          have hr := opnds_rel hE hl
          obtain ⟨fs, cs, h1, r1, r2⟩ := callee_rel hcal (R hg)
          refine ⟨fs ++ args.toList.map a.eval ++ cs, ?_, relL_append (relL_append r1 hr) r2⟩
          have e1 : args.map a.eval = (args.toList.map a.eval).toArray := by apply Array.ext'; simp
          have e2 : fs.toArray ++ (args.toList.map a.eval).toArray ++ cs.toArray = (fs ++ args.toList.map a.eval ++ cs).toArray := by apply Array.ext'; simp
          simp only [execOp, resolve, h1, Deferred.ofValue, Sem.run_bind, Sem.run_pure, Result.andThen_ok, invoke, e1, e2]
        · cases he
      · cases he
    | invoke recv m => simp at he
  all_goals (first | cases he; done | skip)

end Go.Abs
