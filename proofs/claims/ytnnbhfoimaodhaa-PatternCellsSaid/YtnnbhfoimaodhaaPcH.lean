/-
  Contracts of the functions that 'orchestrionlaw05.PatternCells' reaches: Parse.
-/
import Derived.Test.YtnnbhfoimaodhaaPcG
namespace Go.Proofs.Ytnnbhfoimaodhaa
open Go.Abs
set_option linter.unusedVariables false
set_option linter.unusedSimpArgs false
set_option maxHeartbeats 1000000
attribute [local go_sem] sz0 ag0 in0 sz1 ag1 ze1 in1 sz2 ag2 ze2 in2 sz3 ag3 ze3 in3 sz4 ag4 ze4 in4 sz5 ag5 ze5 in5 sz6 ag6 ze6 in6 sz7 ag7 ze7 fi7x0 pl7x0 fi7x1 pl7x1 fi7x2 pl7x2 fi7x3 pl7x3 po7 in7 sz8 ag8 ze8 fi8x0 pl8x0 fi8x1 pl8x1 fi8x2 pl8x2 fi8x3 pl8x3 po8 in8 sz9 ag9 ze9 in9 sz10 ag10 ze10 in10 sz11 ag11 ze11 in11 sz12 ag12 ze12 in12 sz13 ag13 ze13 fi13x0 pl13x0 fi13x1 pl13x1 po13 in13 sz14 ag14 ze14 fi14x0 pl14x0 fi14x1 pl14x1 po14 in14 sz15 ag15 ze15 in15 sz16 ag16 ze16 in16 sz17 ag17 ze17 in17 sz18 ag18 ze18 fi18x0 pl18x0 po18 in18 sz19 ag19 ze19 fi19x0 pl19x0 po19 in19 sz20 ag20 ze20 in20 sz21 ag21 ze21 in21 sz22 ag22 ze22 fi22x0 pl22x0 fi22x1 pl22x1 fi22x2 pl22x2 fi22x3 pl22x3 fi22x4 pl22x4 fi22x5 pl22x5 po22 in22 sz23 ag23 ze23 fi23x0 pl23x0 fi23x1 pl23x1 fi23x2 pl23x2 fi23x3 pl23x3 fi23x4 pl23x4 fi23x5 pl23x5 po23 in23 sz24 ag24 ze24 in24 sz25 ag25 in25 sz26 ag26 ze26 in26 sz27 ag27 ze27 in27 sz28 ag28 in28 sz29 ag29 ze29 in29 sz30 ag30 ze30 in30 sz31 ag31 ze31 in31 sz32 ag32 in32 sz33 ag33 ze33 mp33 in33 sz34 ag34 ze34 in34 sz35 ag35 ze35 in35 sz36 ag36 ze36 el36 in36 sz37 ag37 ze37 in37 sz38 ag38 ze38 in38 sz39 ag39 ze39 el39 in39 sz40 ag40 ze40 in40 sz41 ag41 ze41 in41 sz42 ag42 in42 sz43 ag43 ze43 in43 sz44 ag44 ze44 in44 sz45 ag45 ze45 in45 sz46 ag46 ze46 el46 in46 sz47 ag47 in47 sz48 ag48 ze48 in48 sz49 ag49 ze49 el49 in49 sz50 ag50 ze50 fi50x0 pl50x0 fi50x1 pl50x1 po50 in50 sz51 ag51 ze51 fi51x0 pl51x0 fi51x1 pl51x1 po51 in51 sz52 ag52 ze52 in52 sz53 ag53 ze53 in53 sz54 ag54 ze54 fi54x0 pl54x0 fi54x1 pl54x1 po54 in54 sz55 ag55 ze55 fi55x0 pl55x0 fi55x1 pl55x1 po55 in55 sz56 ag56 ze56 in56 sz57 ag57 ze57 in57 sz58 ag58 ze58 in58 sz59 ag59 in59 sz60 ag60 ze60 in60 sz61 ag61 ze61 in61 sz62 ag62 ze62 in62 sz63 ag63 ze63 in63 sz64 ag64 ze64 in64 sz65 ag65 ze65 in65 sz66 ag66 ze66 in66 sz67 ag67 ze67 in67 sz68 ag68 ze68 in68 sz69 ag69 ze69 in69 sz70 ag70 ze70 in70 sz71 ag71 ze71 fi71x0 pl71x0 fi71x1 pl71x1 fi71x2 pl71x2 fi71x3 pl71x3 fi71x4 pl71x4 po71 in71 sz72 ag72 ze72 fi72x0 pl72x0 fi72x1 pl72x1 fi72x2 pl72x2 fi72x3 pl72x3 fi72x4 pl72x4 po72 in72 sz73 ag73 ze73 pl73x0 pl73x1 pl73x2 pl73x3 po73 in73 sz74 ag74 ze74 in74 sz75 ag75 ze75 in75 sz76 ag76 ze76 el76 in76 sz77 ag77 ze77 in77 sz78 ag78 ze78 in78 sz79 ag79 ze79 in79 sz80 ag80 ze80 in80 sz81 ag81 ze81 in81 sz82 ag82 ze82 fi82x0 pl82x0 fi82x1 pl82x1 fi82x2 pl82x2 fi82x3 pl82x3 po82 in82 sz83 ag83 ze83 fi83x0 pl83x0 fi83x1 pl83x1 fi83x2 pl83x2 fi83x3 pl83x3 po83 in83 sz84 ag84 ze84 po84 in84 sz85 ag85 ze85 fi85x0 pl85x0 po85 in85 sz86 ag86 ze86 fi86x0 pl86x0 po86 in86 sz87 ag87 ze87 in87 sz88 ag88 ze88 in88 sz89 ag89 ze89 in89 sz90 ag90 ze90 in90 sz91 ag91 ze91 in91 sz92 ag92 ze92 in92 sz93 ag93 ze93 in93 sz94 ag94 ze94 fi94x0 pl94x0 fi94x1 pl94x1 fi94x2 pl94x2 fi94x3 pl94x3 fi94x4 pl94x4 fi94x5 pl94x5 fi94x6 pl94x6 fi94x7 pl94x7 fi94x8 pl94x8 fi94x9 pl94x9 fi94x10 pl94x10 po94 in94 sz95 ag95 ze95 fi95x0 pl95x0 fi95x1 pl95x1 fi95x2 pl95x2 fi95x3 pl95x3 fi95x4 pl95x4 fi95x5 pl95x5 fi95x6 pl95x6 fi95x7 pl95x7 fi95x8 pl95x8 fi95x9 pl95x9 fi95x10 pl95x10 po95 in95 Try.underlying0 Try.underlying1 Try.underlying2 Try.underlying3 Try.underlying4 Try.underlying5 Try.underlying6 Try.underlying7 Try.underlying8 Try.underlying9 Try.underlying10 Try.underlying11 Try.underlying12 Try.underlying13 Try.underlying14 Try.underlying15 Try.underlying16 Try.underlying17 Try.underlying18 Try.underlying19 Try.underlying20 Try.underlying21 Try.underlying22 Try.underlying23 Try.underlying24 Try.underlying25 Try.underlying26 Try.underlying27 Try.underlying28 Try.underlying29 Try.underlying30 Try.underlying31 Try.underlying32 Try.underlying33 Try.underlying34 Try.underlying35 Try.underlying36 Try.underlying37 Try.underlying38 Try.underlying39 Try.underlying40 Try.underlying41 Try.underlying42 Try.underlying43 Try.underlying44 Try.underlying45 Try.underlying46 Try.underlying47 Try.underlying48 Try.underlying49 Try.underlying50 Try.underlying51 Try.underlying52 Try.underlying53 Try.underlying54 Try.underlying55 Try.underlying56 Try.underlying57 Try.underlying58 Try.underlying59 Try.underlying60 Try.underlying61 Try.underlying62 Try.underlying63 Try.underlying64 Try.underlying65 Try.underlying66 Try.underlying67 Try.underlying68 Try.underlying69 Try.underlying70 Try.underlying71 Try.underlying72 Try.underlying73 Try.underlying74 Try.underlying75 Try.underlying76 Try.underlying77 Try.underlying78 Try.underlying79 Try.underlying80 Try.underlying81 Try.underlying82 Try.underlying83 Try.underlying84 Try.underlying85 Try.underlying86 Try.underlying87 Try.underlying88 Try.underlying89 Try.underlying90 Try.underlying91 Try.underlying92 Try.underlying93 Try.underlying94 Try.underlying95 ch3x3 pp3x3 ch4x3 pp4x3 ch4x10 pp4x10 ch4x12 pp4x12 ch5x7 pp5x7 ch5x9 pp5x9 ch8x5 pp8x5 ch8x22 pp8x22 ch8x26 pp8x26 ch9x7 pp9x7 ch9x14 pp9x14 ch9x16 pp9x16 ch9x18 pp9x18 ch13x1 pp13x1 ch24x10 pp24x10 ch27x3 pp27x3 ch29x1 pp29x1 ch30x3 pp30x3 ch34x14 pp34x14 ch36x0 pp36x0 ch55x1 pp55x1 ch56x1 pp56x1 ch58x1 pp58x1 ch59x1 pp59x1

def pNote (l : List UInt8) : Option Int :=
  match noteV l with
  | some k => some (k + 1)
  | none => if l = [46, 46, 46] then some 0 else if l = [61, 61, 61] then some 255 else if l = [94, 94, 94] then some 254 else if l = [126, 126, 126] then some 253 else none
def pInst (d e : UInt8) : Option Int := if d = 46 ∧ e = 46 then some 0 else if dg2 10 d e < 1 then none else some (dg2 10 d e)
def pVol (f g h : UInt8) : Option (Int × Int) := if f = 46 ∧ g = 46 ∧ h = 46 then some (0, 0) else if (f.toNat : Int) - 97 + 1 < 1 ∨ dg2 10 g h < 0 then none else some ((f.toNat : Int) - 97 + 1, dg2 10 g h)
def pEff (i j k : UInt8) : Option (Int × Int) := if i = 46 ∧ j = 46 ∧ k = 46 then some (0, 0) else if plc (i.toNat : Int) effs 0 + 1 < 1 ∨ dg2 16 j k < 0 then none else some (plc (i.toNat : Int) effs 0 + 1, dg2 16 j k)

def cellA : Option (Int × Int × Int × Int × Int × Int) → List AV
  | some (a, b, c, d, e, f) => [.c (cellFV a b c d e f), i64 0]
  | none => [.c (cellFV 0 0 0 0 0 0), i64 2]

def pAll (n : Option Int) (b : Option Int) (v : Option (Int × Int)) (x : Option (Int × Int)) : Option (Int × Int × Int × Int × Int × Int) :=
  match n, b, v, x with
  | some n, some b, some (c, d), some (e, f) => if validC n b c d e f = true then some (n, b, c, d, e, f) else none
  | _, _, _, _ => none

def parseP : List UInt8 → Option (Int × Int × Int × Int × Int × Int)
  | [a, b, c, s1, d, e, s2, f, g, h, s3, i, j, k] => if s1 = 32 ∧ s2 = 32 ∧ s3 = 32 then pAll (pNote [a, b, c]) (pInst d e) (pVol f g h) (pEff i j k) else none
  | _ => none

theorem plc_index (c : UInt8) : ∀ (l : List UInt8) (i : Nat), plc (c.toNat : Int) l i = (if Go.Lib.indexByte l c < 0 then -1 else Go.Lib.indexByte l c + i)
  | [], i => rfl
  | x :: r, i => by
    have ih := plc_index c r (i + 1)
    have hg := Go.Lib.indexByte_ge r c
    simp only [plc, Go.Lib.indexByte]
    by_cases hx : x = c
    · subst hx; simp
    · have h1 : ¬ ((x.toNat : Int) = (c.toNat : Int)) := fun h => hx (UInt8.toNat_inj.1 (by omega))
      have h2 : (x == c) = false := by simpa using hx
      simp only [if_neg h1, ih, h2, Bool.false_eq_true, if_false]
      by_cases h3 : Go.Lib.indexByte r c = -1
      · simp [h3]
      · have h4 : (Go.Lib.indexByte r c == -1) = false := by simpa using h3
        simp only [h4, Bool.false_eq_true, if_false]
        rw [if_neg (by omega), if_neg (by omega)]
        omega

theorem wc21' (s : List UInt8) (c : UInt8) (S : St) : WC Try.prog 21 [.c (.str s), .c (.int .u8 c.toNat)] (Is (i64 (plc (c.toNat : Int) s 0)) S) S := by
  have h := wc21 s (c.toNat : Int) S
  have e1 : ((c.toNat : Int)).toNat.toUInt8 = c := by simp
  rw [e1] at h
  have e2 : plc (c.toNat : Int) s 0 = Go.Lib.indexByte s c := by
    have := Go.Lib.indexByte_ge s c
    rw [plc_index]
    split <;> omega
  rw [e2]
  exact h

def nN : Option Nat → Int
  | some n => n
  | none => 0
def nE : Option Nat → Int
  | some _ => 0
  | none => 10
theorem noteA_eq (v : Option Nat) : noteA v = [i64 (nN v), i64 (nE v)] := by cases v <;> rfl

/-- Between the parts of Parse. -/
def pM (S : St) (n b c d e f : Int) (inst vol eff : List UInt8) (e' : Env) (S' : St) : Prop :=
  Fwd S S' ∧ S.next + 1 < S'.next ∧ S'.get S.next = some (.blk [i64 0, i64 0, i64 0, i64 0, i64 0, i64 0] 0 23) ∧ S'.get (S.next + 1) = some (.blk [i64 n, i64 b, i64 c, i64 d, i64 e, i64 f] 0 23) ∧
    e'.get 2 = .ref S.next 0 ∧ e'.get 4 = .c (.fn 18) ∧ e'.get 5 = .ref (S.next + 1) 0 ∧ e'.get 7 = .c (.str inst) ∧ e'.get 8 = .c (.str vol) ∧ e'.get 9 = .c (.str eff)

def markT : Nat → List UInt8
  | 0 => [46, 46, 46]
  | 1 => [61, 61, 61]
  | 2 => [94, 94, 94]
  | _ => [126, 126, 126]
def markK : Nat → Int
  | 0 => 0
  | 1 => 255
  | 2 => 254
  | _ => 253

theorem mark_at {p : FV × AV × Nat} {seen : List Nat} (h : p ∈ Abs.leftOf seen markMap [0, 1, 2, 3]) : p.2.2 < 4 ∧ p.1 = .int .i64 (markK p.2.2) ∧ p.2.1 = .c (.str (markT p.2.2)) := by
  obtain ⟨x, y, z⟩ := p
  obtain ⟨i, h1, h2, _⟩ := leftOf_mem h
  match i, h1, h2 with
  | 0, h1, h2 => cases h1; cases h2; exact ⟨by decide, rfl, rfl⟩
  | 1, h1, h2 => cases h1; cases h2; exact ⟨by decide, rfl, rfl⟩
  | 2, h1, h2 => cases h1; cases h2; exact ⟨by decide, rfl, rfl⟩
  | 3, h1, h2 => cases h1; cases h2; exact ⟨by decide, rfl, rfl⟩
  | i + 4, h1, h2 => simp [markMap] at h1

theorem dg2_bound (bs : Nat) (hb : bs ≤ 36) (x y : UInt8) : -1 ≤ dg2 bs x y ∧ dg2 bs x y ≤ 36 * 37 := by
  have h1 := dgv_bound bs hb x
  have h2 := dgv_bound bs hb y
  unfold dg2
  split
  · omega
  · split
    · omega
    · have : dgv bs x * bs ≤ 36 * bs := Int.mul_le_mul_of_nonneg_right (by omega) (by omega)
      have h3 : 0 ≤ dgv bs x * bs := Int.mul_nonneg (by omega) (by omega)
      omega

theorem u8_ne (x y : UInt8) : ((x.toNat : Int) != (y.toNat : Int)) = !decide (x = y) := by
  by_cases h : x = y
  · subst h; simp
  · have : ¬ ((x.toNat : Int) = (y.toNat : Int)) := fun e => h (UInt8.toNat_inj.1 (by omega))
    simp [h, this]

theorem mark_ent {m : Nat} (h : m < 4) : entOf m markMap [0, 1, 2, 3] = some (.int .i64 (markK m), .c (.str (markT m))) := by
  match m, h with
  | 0, _ => rfl
  | 1, _ => rfl
  | 2, _ => rfl
  | 3, _ => rfl

theorem pNote_mark {l : List UInt8} (hn : noteV l = none) {m : Nat} (hm : m < 4) (h : l = markT m) : pNote l = some (markK m) := by
  subst h
  unfold pNote
  rw [hn]
  match m, hm with
  | 0, _ => rfl
  | 1, _ => rfl
  | 2, _ => rfl
  | 3, _ => rfl

theorem pNote_none {l : List UInt8} (hn : noteV l = none) (h : ∀ m, m < 4 → l ≠ markT m) : pNote l = none := by
  unfold pNote
  rw [hn]
  have h0 := h 0 (by decide)
  have h1 := h 1 (by decide)
  have h2 := h 2 (by decide)
  have h3 := h 3 (by decide)
  simp only [markT] at h0 h1 h2 h3
  simp [h0, h1, h2, h3]

/-- The walk over the marks. -/
def pL (S : St) (l inst vol eff : List UInt8) (n : Nat) (e' : Env) (S' : St) : Prop :=
  ∃ (seen : List Nat) (k0 : Int) (fnd : Bool), n = (Abs.leftOf seen markMap [0, 1, 2, 3]).length ∧ Fwd S S' ∧ S.next + 3 < S'.next ∧ S'.get S.next = some (.blk [i64 0, i64 0, i64 0, i64 0, i64 0, i64 0] 0 23) ∧
    S'.get (S.next + 1) = some (.blk [i64 k0, i64 0, i64 0, i64 0, i64 0, i64 0] 0 23) ∧ S'.get (S.next + 2) = some (.map markMap [0, 1, 2, 3] 4) ∧ S'.get (S.next + 3) = some (.miter (S.next + 2) 4 seen) ∧
    e'.get 2 = .ref S.next 0 ∧ e'.get 4 = .c (.fn 18) ∧ e'.get 5 = .ref (S.next + 1) 0 ∧ e'.get 6 = .c (.str l) ∧ e'.get 7 = .c (.str inst) ∧ e'.get 8 = .c (.str vol) ∧ e'.get 9 = .c (.str eff) ∧
    e'.get 12 = .c (.bool fnd) ∧ e'.get 56 = .iter (S.next + 3) ∧ (fnd = true → pNote l = some k0) ∧ (fnd = false → k0 = 0 ∧ ∀ m, m < 4 → seen.contains m = true → l ≠ markT m)

theorem wc8 (l : List UInt8) (S : St) : WC Try.prog 8 [.c (.str l)] (Is (.tup (cellA (parseP l))) S) S := by
  refine wc_fn (fn := Try.f8) (N := 140) (rs := [.cell 2 23, .tmp 3]) (by rfl) (by kernel_rfl) (by rfl) (by rfl) (by rfl) (by rfl) fun hS => ?_
  by_cases h14 : l.length = 14
  · match l, h14 with
    | [a, b, c, s1, d, e, s2, f, g, h, s3, i, j, k], _ =>
    by_cases hs : s1 = 32 ∧ s2 = 32 ∧ s3 = 32
    · obtain ⟨rfl, rfl, rfl⟩ := hs
      rw [show parseP [a, b, c, 32, d, e, 32, f, g, h, 32, i, j, k] = pAll (pNote [a, b, c]) (pInst d e) (pVol f g h) (pEff i j k) from rfl]
      simp only [bne_self_eq_false, UInt8.toNat_ofNat, Nat.reduceMod, Nat.reducePow, go_sem, maxLenA, put_put, put_new, ne_up1, ne_dn1, ne_up2, ne_dn2, ne_up3, ne_dn3, ne_up4, ne_dn4, ne_up5, ne_dn5, ne_up6, ne_dn6, bytesOf, aMapUpdate, findA, keyEq, keyFits, aLookup, aAssert, mkIface, mkClo, wrap_i64, wrap_i32, wrap_u8, Int.cast_ofNat_Int, Option.some.injEq, Nat.reduceAdd, Nat.reduceSub, Nat.reduceMul, Nat.reduceEqDiff, Nat.reduceLT, Nat.reduceLeDiff, Nat.reduceMod, Nat.reduceDiv, Int.reduceLT, Int.reduceLE, Int.reduceToNat, Int.reduceNeg, Int.reduceEq, Int.reduceBEq, Int.reduceBNe, Nat.reduceBEq, Int.reduceMul, Int.reduceAdd, Int.reduceSub, Int.reduceDiv, Int.reduceTDiv, Int.reduceTMod, Int.reduceMod]
      refine wdraw_plan ch8x5 pp8x5 (by kernel_rfl) (by kernel_rfl) (by kernel_rfl) ?_
      simp only [go_sem, maxLenA, put_put, put_new, ne_up1, ne_dn1, ne_up2, ne_dn2, ne_up3, ne_dn3, ne_up4, ne_dn4, ne_up5, ne_dn5, ne_up6, ne_dn6, bytesOf, aMapUpdate, findA, keyEq, keyFits, aLookup, aAssert, mkIface, mkClo, wrap_i64, wrap_i32, wrap_u8, Int.cast_ofNat_Int, Option.some.injEq, Nat.reduceAdd, Nat.reduceSub, Nat.reduceMul, Nat.reduceEqDiff, Nat.reduceLT, Nat.reduceLeDiff, Nat.reduceMod, Nat.reduceDiv, Int.reduceLT, Int.reduceLE, Int.reduceToNat, Int.reduceNeg, Int.reduceEq, Int.reduceBEq, Int.reduceBNe, Nat.reduceBEq, Int.reduceMul, Int.reduceAdd, Int.reduceSub, Int.reduceDiv, Int.reduceTDiv, Int.reduceTMod, Int.reduceMod]
      with_reducible refine wc_is (wc19 _ _) ?_
      simp only [noteA_eq, go_sem, maxLenA, put_put, put_new, ne_up1, ne_dn1, ne_up2, ne_dn2, ne_up3, ne_dn3, ne_up4, ne_dn4, ne_up5, ne_dn5, ne_up6, ne_dn6, bytesOf, aMapUpdate, findA, keyEq, keyFits, aLookup, aAssert, mkIface, mkClo, wrap_i64, wrap_i32, wrap_u8, Int.cast_ofNat_Int, Option.some.injEq, Nat.reduceAdd, Nat.reduceSub, Nat.reduceMul, Nat.reduceEqDiff, Nat.reduceLT, Nat.reduceLeDiff, Nat.reduceMod, Nat.reduceDiv, Int.reduceLT, Int.reduceLE, Int.reduceToNat, Int.reduceNeg, Int.reduceEq, Int.reduceBEq, Int.reduceBNe, Nat.reduceBEq, Int.reduceMul, Int.reduceAdd, Int.reduceSub, Int.reduceDiv, Int.reduceTDiv, Int.reduceTMod, Int.reduceMod]
      refine condK_cut (fun e' S' => ∃ n, pNote [a, b, c] = some n ∧ pM S n 0 0 0 0 0 [d, e] [f, g, h] [i, j, k] e' S') ?_ ?_
      · have hF : Fwd S ((S.new (.blk [i64 0, i64 0, i64 0, i64 0, i64 0, i64 0] 0 23)).new (.blk [i64 0, i64 0, i64 0, i64 0, i64 0, i64 0] 0 23)) := ((Fwd.refl hS).new _).new _
        cases hn : noteV [a, b, c] with
        | some n =>
          have hlt := (name_noteV hn).1
          have w1 : IntKind.i64.wrap ((n : Int) + 1) = (n : Int) + 1 := wrap_i64 _ (by omega) (by omega)
          simp only [nE, nN, beq_self_eq_true, w1, go_sem, maxLenA, put_put, put_new, ne_up1, ne_dn1, ne_up2, ne_dn2, ne_up3, ne_dn3, ne_up4, ne_dn4, ne_up5, ne_dn5, ne_up6, ne_dn6, bytesOf, aMapUpdate, findA, keyEq, keyFits, aLookup, aAssert, mkIface, mkClo, wrap_i64, wrap_i32, wrap_u8, Int.cast_ofNat_Int, Option.some.injEq, Nat.reduceAdd, Nat.reduceSub, Nat.reduceMul, Nat.reduceEqDiff, Nat.reduceLT, Nat.reduceLeDiff, Nat.reduceMod, Nat.reduceDiv, Int.reduceLT, Int.reduceLE, Int.reduceToNat, Int.reduceNeg, Int.reduceEq, Int.reduceBEq, Int.reduceBNe, Nat.reduceBEq, Int.reduceMul, Int.reduceAdd, Int.reduceSub, Int.reduceDiv, Int.reduceTDiv, Int.reduceTMod, Int.reduceMod]
          refine ⟨(n : Int) + 1, by simp [pNote, hn], hF.put (Nat.le_succ _) _, ?_⟩
          simp only [Nat.lt_succ_self, Nat.add_assoc, go_sem, maxLenA, put_put, put_new, ne_up1, ne_dn1, ne_up2, ne_dn2, ne_up3, ne_dn3, ne_up4, ne_dn4, ne_up5, ne_dn5, ne_up6, ne_dn6, bytesOf, aMapUpdate, findA, keyEq, keyFits, aLookup, aAssert, mkIface, mkClo, wrap_i64, wrap_i32, wrap_u8, Int.cast_ofNat_Int, Option.some.injEq, Nat.reduceAdd, Nat.reduceSub, Nat.reduceMul, Nat.reduceEqDiff, Nat.reduceLT, Nat.reduceLeDiff, Nat.reduceMod, Nat.reduceDiv, Int.reduceLT, Int.reduceLE, Int.reduceToNat, Int.reduceNeg, Int.reduceEq, Int.reduceBEq, Int.reduceBNe, Nat.reduceBEq, Int.reduceMul, Int.reduceAdd, Int.reduceSub, Int.reduceDiv, Int.reduceTDiv, Int.reduceTMod, Int.reduceMod]
        | none =>
          simp only [nE, nN, go_sem, maxLenA, put_put, put_new, ne_up1, ne_dn1, ne_up2, ne_dn2, ne_up3, ne_dn3, ne_up4, ne_dn4, ne_up5, ne_dn5, ne_up6, ne_dn6, bytesOf, aMapUpdate, findA, keyEq, keyFits, aLookup, aAssert, mkIface, mkClo, wrap_i64, wrap_i32, wrap_u8, Int.cast_ofNat_Int, Option.some.injEq, Nat.reduceAdd, Nat.reduceSub, Nat.reduceMul, Nat.reduceEqDiff, Nat.reduceLT, Nat.reduceLeDiff, Nat.reduceMod, Nat.reduceDiv, Int.reduceLT, Int.reduceLE, Int.reduceToNat, Int.reduceNeg, Int.reduceEq, Int.reduceBEq, Int.reduceBNe, Nat.reduceBEq, Int.reduceMul, Int.reduceAdd, Int.reduceSub, Int.reduceDiv, Int.reduceTDiv, Int.reduceTMod, Int.reduceMod]
          with_reducible refine wc_is (wc11 _) ?_
          simp only [go_sem, maxLenA, put_put, put_new, ne_up1, ne_dn1, ne_up2, ne_dn2, ne_up3, ne_dn3, ne_up4, ne_dn4, ne_up5, ne_dn5, ne_up6, ne_dn6, bytesOf, aMapUpdate, findA, keyEq, keyFits, aLookup, aAssert, mkIface, mkClo, wrap_i64, wrap_i32, wrap_u8, Int.cast_ofNat_Int, Option.some.injEq, Nat.reduceAdd, Nat.reduceSub, Nat.reduceMul, Nat.reduceEqDiff, Nat.reduceLT, Nat.reduceLeDiff, Nat.reduceMod, Nat.reduceDiv, Int.reduceLT, Int.reduceLE, Int.reduceToNat, Int.reduceNeg, Int.reduceEq, Int.reduceBEq, Int.reduceBNe, Nat.reduceBEq, Int.reduceMul, Int.reduceAdd, Int.reduceSub, Int.reduceDiv, Int.reduceTDiv, Int.reduceTMod, Int.reduceMod]
          refine wloop_meas (pL S [a, b, c] [d, e] [f, g, h] [i, j, k]) ?_ 4 _ _ ?_
          · rintro n e' S' ⟨seen, k0, fnd, rfl, hF', hN, z0, z1, z2, z3, g2, g4, g5, g6, g7, g8, g9, g12, g56, hf1, hf2⟩
            have ha : ([0, 1, 2, 3].all fun n => Nat.blt n 4) = true := rfl
            simp only [g56, z3, z2, ha, go_sem, maxLenA, put_put, put_new, ne_up1, ne_dn1, ne_up2, ne_dn2, ne_up3, ne_dn3, ne_up4, ne_dn4, ne_up5, ne_dn5, ne_up6, ne_dn6, bytesOf, aMapUpdate, findA, keyEq, keyFits, aLookup, aAssert, mkIface, mkClo, wrap_i64, wrap_i32, wrap_u8, Int.cast_ofNat_Int, Option.some.injEq, Nat.reduceAdd, Nat.reduceSub, Nat.reduceMul, Nat.reduceEqDiff, Nat.reduceLT, Nat.reduceLeDiff, Nat.reduceMod, Nat.reduceDiv, Int.reduceLT, Int.reduceLE, Int.reduceToNat, Int.reduceNeg, Int.reduceEq, Int.reduceBEq, Int.reduceBNe, Nat.reduceBEq, Int.reduceMul, Int.reduceAdd, Int.reduceSub, Int.reduceDiv, Int.reduceTDiv, Int.reduceTMod, Int.reduceMod]
            refine resK_next (fun hl => ?_) (fun p hp => ?_)
            · have hall := leftOf_nil hl rfl
              cases fnd with
              | true =>
                simp only [g12, go_sem, maxLenA, put_put, put_new, ne_up1, ne_dn1, ne_up2, ne_dn2, ne_up3, ne_dn3, ne_up4, ne_dn4, ne_up5, ne_dn5, ne_up6, ne_dn6, bytesOf, aMapUpdate, findA, keyEq, keyFits, aLookup, aAssert, mkIface, mkClo, wrap_i64, wrap_i32, wrap_u8, Int.cast_ofNat_Int, Option.some.injEq, Nat.reduceAdd, Nat.reduceSub, Nat.reduceMul, Nat.reduceEqDiff, Nat.reduceLT, Nat.reduceLeDiff, Nat.reduceMod, Nat.reduceDiv, Int.reduceLT, Int.reduceLE, Int.reduceToNat, Int.reduceNeg, Int.reduceEq, Int.reduceBEq, Int.reduceBNe, Nat.reduceBEq, Int.reduceMul, Int.reduceAdd, Int.reduceSub, Int.reduceDiv, Int.reduceTDiv, Int.reduceTMod, Int.reduceMod]
                exact ⟨k0, hf1 rfl, hF', by omega, z0, z1, g2, g4, g5, g7, g8, g9⟩
              | false =>
                simp only [g12, g4, go_sem, maxLenA, put_put, put_new, ne_up1, ne_dn1, ne_up2, ne_dn2, ne_up3, ne_dn3, ne_up4, ne_dn4, ne_up5, ne_dn5, ne_up6, ne_dn6, bytesOf, aMapUpdate, findA, keyEq, keyFits, aLookup, aAssert, mkIface, mkClo, wrap_i64, wrap_i32, wrap_u8, Int.cast_ofNat_Int, Option.some.injEq, Nat.reduceAdd, Nat.reduceSub, Nat.reduceMul, Nat.reduceEqDiff, Nat.reduceLT, Nat.reduceLeDiff, Nat.reduceMod, Nat.reduceDiv, Int.reduceLT, Int.reduceLE, Int.reduceToNat, Int.reduceNeg, Int.reduceEq, Int.reduceBEq, Int.reduceBNe, Nat.reduceBEq, Int.reduceMul, Int.reduceAdd, Int.reduceSub, Int.reduceDiv, Int.reduceTDiv, Int.reduceTMod, Int.reduceMod]
                with_reducible refine wc_is (wc18 _) ?_
                simp only [g2, z0, go_sem, maxLenA, put_put, put_new, ne_up1, ne_dn1, ne_up2, ne_dn2, ne_up3, ne_dn3, ne_up4, ne_dn4, ne_up5, ne_dn5, ne_up6, ne_dn6, bytesOf, aMapUpdate, findA, keyEq, keyFits, aLookup, aAssert, mkIface, mkClo, wrap_i64, wrap_i32, wrap_u8, Int.cast_ofNat_Int, Option.some.injEq, Nat.reduceAdd, Nat.reduceSub, Nat.reduceMul, Nat.reduceEqDiff, Nat.reduceLT, Nat.reduceLeDiff, Nat.reduceMod, Nat.reduceDiv, Int.reduceLT, Int.reduceLE, Int.reduceToNat, Int.reduceNeg, Int.reduceEq, Int.reduceBEq, Int.reduceBNe, Nat.reduceBEq, Int.reduceMul, Int.reduceAdd, Int.reduceSub, Int.reduceDiv, Int.reduceTDiv, Int.reduceTMod, Int.reduceMod]
                refine ends_fwd (hF'.put (Nat.le_refl _) _) rfl ⟨?_, rfl⟩
                rw [pNote_none hn fun m hm => (hf2 rfl).2 m hm (hall m (by match m, hm with | 0, _ | 1, _ | 2, _ | 3, _ => simp))]
                rfl
            · obtain ⟨hp1, hp2, hp3⟩ := mark_at hp
              have hlt := leftOf_lt hp
              have hput : Fwd S (S'.put (S.next + 3) (.miter (S.next + 2) 4 (seen ++ [p.2.2]))) := hF'.put (by omega) _
              have gl : (seen ++ [p.2.2]).getLast? = some p.2.2 := by simp
              have he : entOf p.2.2 markMap [0, 1, 2, 3] = some (.int .i64 (markK p.2.2), .c (.str (markT p.2.2))) := mark_ent hp1
              by_cases hm : [a, b, c] = markT p.2.2
              · have hb : (markT p.2.2 == [a, b, c]) = true := by simp [hm]
                simp only [g56, z0, z1, z2, z3, ha, gl, he, hb, g5, g6, go_sem, maxLenA, put_put, put_new, ne_up1, ne_dn1, ne_up2, ne_dn2, ne_up3, ne_dn3, ne_up4, ne_dn4, ne_up5, ne_dn5, ne_up6, ne_dn6, bytesOf, aMapUpdate, findA, keyEq, keyFits, aLookup, aAssert, mkIface, mkClo, wrap_i64, wrap_i32, wrap_u8, Int.cast_ofNat_Int, Option.some.injEq, Nat.reduceAdd, Nat.reduceSub, Nat.reduceMul, Nat.reduceEqDiff, Nat.reduceLT, Nat.reduceLeDiff, Nat.reduceMod, Nat.reduceDiv, Int.reduceLT, Int.reduceLE, Int.reduceToNat, Int.reduceNeg, Int.reduceEq, Int.reduceBEq, Int.reduceBNe, Nat.reduceBEq, Int.reduceMul, Int.reduceAdd, Int.reduceSub, Int.reduceDiv, Int.reduceTDiv, Int.reduceTMod, Int.reduceMod]
                refine ⟨_, hlt, seen ++ [p.2.2], markK p.2.2, true, rfl, hput.put (by omega) _, ?_⟩
                simp only [g56, z0, z1, z2, z3, g2, g4, g5, g6, g7, g8, g9, hN, go_sem, maxLenA, put_put, put_new, ne_up1, ne_dn1, ne_up2, ne_dn2, ne_up3, ne_dn3, ne_up4, ne_dn4, ne_up5, ne_dn5, ne_up6, ne_dn6, bytesOf, aMapUpdate, findA, keyEq, keyFits, aLookup, aAssert, mkIface, mkClo, wrap_i64, wrap_i32, wrap_u8, Int.cast_ofNat_Int, Option.some.injEq, Nat.reduceAdd, Nat.reduceSub, Nat.reduceMul, Nat.reduceEqDiff, Nat.reduceLT, Nat.reduceLeDiff, Nat.reduceMod, Nat.reduceDiv, Int.reduceLT, Int.reduceLE, Int.reduceToNat, Int.reduceNeg, Int.reduceEq, Int.reduceBEq, Int.reduceBNe, Nat.reduceBEq, Int.reduceMul, Int.reduceAdd, Int.reduceSub, Int.reduceDiv, Int.reduceTDiv, Int.reduceTMod, Int.reduceMod]
                exact pNote_mark hn hp1 hm
              · have hb : (markT p.2.2 == [a, b, c]) = false := by
                  simp only [beq_eq_false_iff_ne]
                  exact fun h => hm h.symm
                simp only [g56, z0, z1, z2, z3, ha, gl, he, hb, g5, g6, go_sem, maxLenA, put_put, put_new, ne_up1, ne_dn1, ne_up2, ne_dn2, ne_up3, ne_dn3, ne_up4, ne_dn4, ne_up5, ne_dn5, ne_up6, ne_dn6, bytesOf, aMapUpdate, findA, keyEq, keyFits, aLookup, aAssert, mkIface, mkClo, wrap_i64, wrap_i32, wrap_u8, Int.cast_ofNat_Int, Option.some.injEq, Nat.reduceAdd, Nat.reduceSub, Nat.reduceMul, Nat.reduceEqDiff, Nat.reduceLT, Nat.reduceLeDiff, Nat.reduceMod, Nat.reduceDiv, Int.reduceLT, Int.reduceLE, Int.reduceToNat, Int.reduceNeg, Int.reduceEq, Int.reduceBEq, Int.reduceBNe, Nat.reduceBEq, Int.reduceMul, Int.reduceAdd, Int.reduceSub, Int.reduceDiv, Int.reduceTDiv, Int.reduceTMod, Int.reduceMod]
                refine ⟨_, hlt, seen ++ [p.2.2], k0, fnd, rfl, hput, ?_⟩
                simp only [g56, z0, z1, z2, z3, g2, g4, g5, g6, g7, g8, g9, g12, hN, go_sem, maxLenA, put_put, put_new, ne_up1, ne_dn1, ne_up2, ne_dn2, ne_up3, ne_dn3, ne_up4, ne_dn4, ne_up5, ne_dn5, ne_up6, ne_dn6, bytesOf, aMapUpdate, findA, keyEq, keyFits, aLookup, aAssert, mkIface, mkClo, wrap_i64, wrap_i32, wrap_u8, Int.cast_ofNat_Int, Option.some.injEq, Nat.reduceAdd, Nat.reduceSub, Nat.reduceMul, Nat.reduceEqDiff, Nat.reduceLT, Nat.reduceLeDiff, Nat.reduceMod, Nat.reduceDiv, Int.reduceLT, Int.reduceLE, Int.reduceToNat, Int.reduceNeg, Int.reduceEq, Int.reduceBEq, Int.reduceBNe, Nat.reduceBEq, Int.reduceMul, Int.reduceAdd, Int.reduceSub, Int.reduceDiv, Int.reduceTDiv, Int.reduceTMod, Int.reduceMod]
                refine ⟨hf1, fun hf => ⟨(hf2 hf).1, fun m hm4 hc => ?_⟩⟩
                simp only [List.contains_eq_mem, List.mem_append, List.mem_singleton, decide_eq_true_eq] at hc
                rcases hc with hc | rfl
                · exact (hf2 hf).2 m hm4 (by simpa using hc)
                · exact hm
          · refine ⟨[], 0, false, rfl, (hF.new _).new _, ?_⟩
            simp only [Nat.add_assoc, Nat.lt_succ_self, go_sem, maxLenA, put_put, put_new, ne_up1, ne_dn1, ne_up2, ne_dn2, ne_up3, ne_dn3, ne_up4, ne_dn4, ne_up5, ne_dn5, ne_up6, ne_dn6, bytesOf, aMapUpdate, findA, keyEq, keyFits, aLookup, aAssert, mkIface, mkClo, wrap_i64, wrap_i32, wrap_u8, Int.cast_ofNat_Int, Option.some.injEq, Nat.reduceAdd, Nat.reduceSub, Nat.reduceMul, Nat.reduceEqDiff, Nat.reduceLT, Nat.reduceLeDiff, Nat.reduceMod, Nat.reduceDiv, Int.reduceLT, Int.reduceLE, Int.reduceToNat, Int.reduceNeg, Int.reduceEq, Int.reduceBEq, Int.reduceBNe, Nat.reduceBEq, Int.reduceMul, Int.reduceAdd, Int.reduceSub, Int.reduceDiv, Int.reduceTDiv, Int.reduceTMod, Int.reduceMod]
            simp
      -- the instrument
      rintro e' T ⟨n, hn, hF, hN, z0, z1, g2, g4, g5, g7, g8, g9⟩
      rw [hn]
      simp only [g2, g4, g5, g7, g8, g9, go_sem, maxLenA, put_put, put_new, ne_up1, ne_dn1, ne_up2, ne_dn2, ne_up3, ne_dn3, ne_up4, ne_dn4, ne_up5, ne_dn5, ne_up6, ne_dn6, bytesOf, aMapUpdate, findA, keyEq, keyFits, aLookup, aAssert, mkIface, mkClo, wrap_i64, wrap_i32, wrap_u8, Int.cast_ofNat_Int, Option.some.injEq, Nat.reduceAdd, Nat.reduceSub, Nat.reduceMul, Nat.reduceEqDiff, Nat.reduceLT, Nat.reduceLeDiff, Nat.reduceMod, Nat.reduceDiv, Int.reduceLT, Int.reduceLE, Int.reduceToNat, Int.reduceNeg, Int.reduceEq, Int.reduceBEq, Int.reduceBNe, Nat.reduceBEq, Int.reduceMul, Int.reduceAdd, Int.reduceSub, Int.reduceDiv, Int.reduceTDiv, Int.reduceTMod, Int.reduceMod]
      refine condK_cut (fun e' S' => ∃ b, pInst d e = some b ∧ pM S n b 0 0 0 0 [d, e] [f, g, h] [i, j, k] e' S') ?_ ?_
      · by_cases hd : d = 46 ∧ e = 46
        · obtain ⟨rfl, rfl⟩ := hd
          simp only [bne_self_eq_false, go_sem, maxLenA, put_put, put_new, ne_up1, ne_dn1, ne_up2, ne_dn2, ne_up3, ne_dn3, ne_up4, ne_dn4, ne_up5, ne_dn5, ne_up6, ne_dn6, bytesOf, aMapUpdate, findA, keyEq, keyFits, aLookup, aAssert, mkIface, mkClo, wrap_i64, wrap_i32, wrap_u8, Int.cast_ofNat_Int, Option.some.injEq, Nat.reduceAdd, Nat.reduceSub, Nat.reduceMul, Nat.reduceEqDiff, Nat.reduceLT, Nat.reduceLeDiff, Nat.reduceMod, Nat.reduceDiv, Int.reduceLT, Int.reduceLE, Int.reduceToNat, Int.reduceNeg, Int.reduceEq, Int.reduceBEq, Int.reduceBNe, Nat.reduceBEq, Int.reduceMul, Int.reduceAdd, Int.reduceSub, Int.reduceDiv, Int.reduceTDiv, Int.reduceTMod, Int.reduceMod]
          exact ⟨0, rfl, hF, hN, z0, z1, g2, g4, g5, g7, g8, g9⟩
        · have hb : ([d, e] != [46, 46]) = true := by simp; exact fun h1 h2 => hd ⟨h1, h2⟩
          have hdv := dg2_bound 10 (by decide) d e
          have hpi : pInst d e = if dg2 10 d e < 1 then none else some (dg2 10 d e) := by rw [pInst, if_neg hd]
          simp only [hb, g7, go_sem, maxLenA, put_put, put_new, ne_up1, ne_dn1, ne_up2, ne_dn2, ne_up3, ne_dn3, ne_up4, ne_dn4, ne_up5, ne_dn5, ne_up6, ne_dn6, bytesOf, aMapUpdate, findA, keyEq, keyFits, aLookup, aAssert, mkIface, mkClo, wrap_i64, wrap_i32, wrap_u8, Int.cast_ofNat_Int, Option.some.injEq, Nat.reduceAdd, Nat.reduceSub, Nat.reduceMul, Nat.reduceEqDiff, Nat.reduceLT, Nat.reduceLeDiff, Nat.reduceMod, Nat.reduceDiv, Int.reduceLT, Int.reduceLE, Int.reduceToNat, Int.reduceNeg, Int.reduceEq, Int.reduceBEq, Int.reduceBNe, Nat.reduceBEq, Int.reduceMul, Int.reduceAdd, Int.reduceSub, Int.reduceDiv, Int.reduceTDiv, Int.reduceTMod, Int.reduceMod]
          with_reducible refine wc_is (wc20 d e 10 (by decide) (by decide) _) ?_
          have hF' : Fwd S (T.put (S.next + 1) (.blk [i64 n, i64 (dg2 10 d e), i64 0, i64 0, i64 0, i64 0] 0 23)) := hF.put (Nat.le_succ _) _
          by_cases hlt : dg2 10 d e < 1
          · simp only [g5, z0, z1, hlt, g4, go_sem, maxLenA, put_put, put_new, ne_up1, ne_dn1, ne_up2, ne_dn2, ne_up3, ne_dn3, ne_up4, ne_dn4, ne_up5, ne_dn5, ne_up6, ne_dn6, bytesOf, aMapUpdate, findA, keyEq, keyFits, aLookup, aAssert, mkIface, mkClo, wrap_i64, wrap_i32, wrap_u8, Int.cast_ofNat_Int, Option.some.injEq, Nat.reduceAdd, Nat.reduceSub, Nat.reduceMul, Nat.reduceEqDiff, Nat.reduceLT, Nat.reduceLeDiff, Nat.reduceMod, Nat.reduceDiv, Int.reduceLT, Int.reduceLE, Int.reduceToNat, Int.reduceNeg, Int.reduceEq, Int.reduceBEq, Int.reduceBNe, Nat.reduceBEq, Int.reduceMul, Int.reduceAdd, Int.reduceSub, Int.reduceDiv, Int.reduceTDiv, Int.reduceTMod, Int.reduceMod]
            with_reducible refine wc_is (wc18 _) ?_
            simp only [g2, z0, go_sem, maxLenA, put_put, put_new, ne_up1, ne_dn1, ne_up2, ne_dn2, ne_up3, ne_dn3, ne_up4, ne_dn4, ne_up5, ne_dn5, ne_up6, ne_dn6, bytesOf, aMapUpdate, findA, keyEq, keyFits, aLookup, aAssert, mkIface, mkClo, wrap_i64, wrap_i32, wrap_u8, Int.cast_ofNat_Int, Option.some.injEq, Nat.reduceAdd, Nat.reduceSub, Nat.reduceMul, Nat.reduceEqDiff, Nat.reduceLT, Nat.reduceLeDiff, Nat.reduceMod, Nat.reduceDiv, Int.reduceLT, Int.reduceLE, Int.reduceToNat, Int.reduceNeg, Int.reduceEq, Int.reduceBEq, Int.reduceBNe, Nat.reduceBEq, Int.reduceMul, Int.reduceAdd, Int.reduceSub, Int.reduceDiv, Int.reduceTDiv, Int.reduceTMod, Int.reduceMod]
            refine ends_fwd (hF'.put (Nat.le_refl _) _) rfl ⟨?_, rfl⟩
            rw [hpi, if_pos hlt]
            rfl
          · simp only [g5, z0, z1, hlt, g4, go_sem, maxLenA, put_put, put_new, ne_up1, ne_dn1, ne_up2, ne_dn2, ne_up3, ne_dn3, ne_up4, ne_dn4, ne_up5, ne_dn5, ne_up6, ne_dn6, bytesOf, aMapUpdate, findA, keyEq, keyFits, aLookup, aAssert, mkIface, mkClo, wrap_i64, wrap_i32, wrap_u8, Int.cast_ofNat_Int, Option.some.injEq, Nat.reduceAdd, Nat.reduceSub, Nat.reduceMul, Nat.reduceEqDiff, Nat.reduceLT, Nat.reduceLeDiff, Nat.reduceMod, Nat.reduceDiv, Int.reduceLT, Int.reduceLE, Int.reduceToNat, Int.reduceNeg, Int.reduceEq, Int.reduceBEq, Int.reduceBNe, Nat.reduceBEq, Int.reduceMul, Int.reduceAdd, Int.reduceSub, Int.reduceDiv, Int.reduceTDiv, Int.reduceTMod, Int.reduceMod]
            exact ⟨_, by rw [hpi, if_neg hlt], hF', by simp only [hN, go_sem, maxLenA, put_put, put_new, ne_up1, ne_dn1, ne_up2, ne_dn2, ne_up3, ne_dn3, ne_up4, ne_dn4, ne_up5, ne_dn5, ne_up6, ne_dn6, bytesOf, aMapUpdate, findA, keyEq, keyFits, aLookup, aAssert, mkIface, mkClo, wrap_i64, wrap_i32, wrap_u8, Int.cast_ofNat_Int, Option.some.injEq, Nat.reduceAdd, Nat.reduceSub, Nat.reduceMul, Nat.reduceEqDiff, Nat.reduceLT, Nat.reduceLeDiff, Nat.reduceMod, Nat.reduceDiv, Int.reduceLT, Int.reduceLE, Int.reduceToNat, Int.reduceNeg, Int.reduceEq, Int.reduceBEq, Int.reduceBNe, Nat.reduceBEq, Int.reduceMul, Int.reduceAdd, Int.reduceSub, Int.reduceDiv, Int.reduceTDiv, Int.reduceTMod, Int.reduceMod], by simp only [z0, go_sem, maxLenA, put_put, put_new, ne_up1, ne_dn1, ne_up2, ne_dn2, ne_up3, ne_dn3, ne_up4, ne_dn4, ne_up5, ne_dn5, ne_up6, ne_dn6, bytesOf, aMapUpdate, findA, keyEq, keyFits, aLookup, aAssert, mkIface, mkClo, wrap_i64, wrap_i32, wrap_u8, Int.cast_ofNat_Int, Option.some.injEq, Nat.reduceAdd, Nat.reduceSub, Nat.reduceMul, Nat.reduceEqDiff, Nat.reduceLT, Nat.reduceLeDiff, Nat.reduceMod, Nat.reduceDiv, Int.reduceLT, Int.reduceLE, Int.reduceToNat, Int.reduceNeg, Int.reduceEq, Int.reduceBEq, Int.reduceBNe, Nat.reduceBEq, Int.reduceMul, Int.reduceAdd, Int.reduceSub, Int.reduceDiv, Int.reduceTDiv, Int.reduceTMod, Int.reduceMod], by simp only [go_sem, maxLenA, put_put, put_new, ne_up1, ne_dn1, ne_up2, ne_dn2, ne_up3, ne_dn3, ne_up4, ne_dn4, ne_up5, ne_dn5, ne_up6, ne_dn6, bytesOf, aMapUpdate, findA, keyEq, keyFits, aLookup, aAssert, mkIface, mkClo, wrap_i64, wrap_i32, wrap_u8, Int.cast_ofNat_Int, Option.some.injEq, Nat.reduceAdd, Nat.reduceSub, Nat.reduceMul, Nat.reduceEqDiff, Nat.reduceLT, Nat.reduceLeDiff, Nat.reduceMod, Nat.reduceDiv, Int.reduceLT, Int.reduceLE, Int.reduceToNat, Int.reduceNeg, Int.reduceEq, Int.reduceBEq, Int.reduceBNe, Nat.reduceBEq, Int.reduceMul, Int.reduceAdd, Int.reduceSub, Int.reduceDiv, Int.reduceTDiv, Int.reduceTMod, Int.reduceMod], g2, g4, g5, g7, g8, g9⟩
      clear hF hN z0 z1 g2 g4 g5 g7 g8 g9
      -- the volume column
      rintro e' T ⟨b, hpb, hF, hN, z0, z1, g2, g4, g5, g7, g8, g9⟩
      rw [hpb]
      simp only [g2, g4, g5, g7, g8, g9, go_sem, maxLenA, put_put, put_new, ne_up1, ne_dn1, ne_up2, ne_dn2, ne_up3, ne_dn3, ne_up4, ne_dn4, ne_up5, ne_dn5, ne_up6, ne_dn6, bytesOf, aMapUpdate, findA, keyEq, keyFits, aLookup, aAssert, mkIface, mkClo, wrap_i64, wrap_i32, wrap_u8, Int.cast_ofNat_Int, Option.some.injEq, Nat.reduceAdd, Nat.reduceSub, Nat.reduceMul, Nat.reduceEqDiff, Nat.reduceLT, Nat.reduceLeDiff, Nat.reduceMod, Nat.reduceDiv, Int.reduceLT, Int.reduceLE, Int.reduceToNat, Int.reduceNeg, Int.reduceEq, Int.reduceBEq, Int.reduceBNe, Nat.reduceBEq, Int.reduceMul, Int.reduceAdd, Int.reduceSub, Int.reduceDiv, Int.reduceTDiv, Int.reduceTMod, Int.reduceMod]
      refine condK_cut (fun e' S' => ∃ c d', pVol f g h = some (c, d') ∧ pM S n b c d' 0 0 [d, e] [f, g, h] [i, j, k] e' S') ?_ ?_
      · by_cases hd : f = 46 ∧ g = 46 ∧ h = 46
        · obtain ⟨rfl, rfl, rfl⟩ := hd
          simp only [bne_self_eq_false, go_sem, maxLenA, put_put, put_new, ne_up1, ne_dn1, ne_up2, ne_dn2, ne_up3, ne_dn3, ne_up4, ne_dn4, ne_up5, ne_dn5, ne_up6, ne_dn6, bytesOf, aMapUpdate, findA, keyEq, keyFits, aLookup, aAssert, mkIface, mkClo, wrap_i64, wrap_i32, wrap_u8, Int.cast_ofNat_Int, Option.some.injEq, Nat.reduceAdd, Nat.reduceSub, Nat.reduceMul, Nat.reduceEqDiff, Nat.reduceLT, Nat.reduceLeDiff, Nat.reduceMod, Nat.reduceDiv, Int.reduceLT, Int.reduceLE, Int.reduceToNat, Int.reduceNeg, Int.reduceEq, Int.reduceBEq, Int.reduceBNe, Nat.reduceBEq, Int.reduceMul, Int.reduceAdd, Int.reduceSub, Int.reduceDiv, Int.reduceTDiv, Int.reduceTMod, Int.reduceMod]
          exact ⟨0, 0, rfl, hF, hN, z0, z1, g2, g4, g5, g7, g8, g9⟩
        · have hb : ([f, g, h] != [46, 46, 46]) = true := by simp; exact fun h1 h2 h3 => hd ⟨h1, h2, h3⟩
          have hdv := dg2_bound 10 (by decide) g h
          have hpi : pVol f g h = if (f.toNat : Int) - 97 + 1 < 1 ∨ dg2 10 g h < 0 then none else some ((f.toNat : Int) - 97 + 1, dg2 10 g h) := by rw [pVol, if_neg hd]
          have hft : (f.toNat : Int) < 256 := by have := f.toNat_lt; omega
          simp only [hb, g8, go_sem, maxLenA, put_put, put_new, ne_up1, ne_dn1, ne_up2, ne_dn2, ne_up3, ne_dn3, ne_up4, ne_dn4, ne_up5, ne_dn5, ne_up6, ne_dn6, bytesOf, aMapUpdate, findA, keyEq, keyFits, aLookup, aAssert, mkIface, mkClo, wrap_i64, wrap_i32, wrap_u8, Int.cast_ofNat_Int, Option.some.injEq, Nat.reduceAdd, Nat.reduceSub, Nat.reduceMul, Nat.reduceEqDiff, Nat.reduceLT, Nat.reduceLeDiff, Nat.reduceMod, Nat.reduceDiv, Int.reduceLT, Int.reduceLE, Int.reduceToNat, Int.reduceNeg, Int.reduceEq, Int.reduceBEq, Int.reduceBNe, Nat.reduceBEq, Int.reduceMul, Int.reduceAdd, Int.reduceSub, Int.reduceDiv, Int.reduceTDiv, Int.reduceTMod, Int.reduceMod]
          refine wdraw_plan ch8x22 pp8x22 (by kernel_rfl) (by kernel_rfl) (by kernel_rfl) ?_
          have w1 : IntKind.i64.wrap (f.toNat : Int) = f.toNat := wrap_i64 _ (by omega) (by omega)
          have w2 : IntKind.i64.wrap ((f.toNat : Int) - 97) = (f.toNat : Int) - 97 := wrap_i64 _ (by omega) (by omega)
          have w3 : IntKind.i64.wrap ((f.toNat : Int) - 97 + 1) = (f.toNat : Int) - 97 + 1 := wrap_i64 _ (by omega) (by omega)
          simp only [g5, g8, w1, w2, w3, go_sem, maxLenA, put_put, put_new, ne_up1, ne_dn1, ne_up2, ne_dn2, ne_up3, ne_dn3, ne_up4, ne_dn4, ne_up5, ne_dn5, ne_up6, ne_dn6, bytesOf, aMapUpdate, findA, keyEq, keyFits, aLookup, aAssert, mkIface, mkClo, wrap_i64, wrap_i32, wrap_u8, Int.cast_ofNat_Int, Option.some.injEq, Nat.reduceAdd, Nat.reduceSub, Nat.reduceMul, Nat.reduceEqDiff, Nat.reduceLT, Nat.reduceLeDiff, Nat.reduceMod, Nat.reduceDiv, Int.reduceLT, Int.reduceLE, Int.reduceToNat, Int.reduceNeg, Int.reduceEq, Int.reduceBEq, Int.reduceBNe, Nat.reduceBEq, Int.reduceMul, Int.reduceAdd, Int.reduceSub, Int.reduceDiv, Int.reduceTDiv, Int.reduceTMod, Int.reduceMod]
          refine ⟨_, wc20 g h 10 (by decide) (by decide) _, ?_⟩
          simp only [g5, g8, w1, w2, w3, z0, z1, go_sem, maxLenA, put_put, put_new, ne_up1, ne_dn1, ne_up2, ne_dn2, ne_up3, ne_dn3, ne_up4, ne_dn4, ne_up5, ne_dn5, ne_up6, ne_dn6, bytesOf, aMapUpdate, findA, keyEq, keyFits, aLookup, aAssert, mkIface, mkClo, wrap_i64, wrap_i32, wrap_u8, Int.cast_ofNat_Int, Option.some.injEq, Nat.reduceAdd, Nat.reduceSub, Nat.reduceMul, Nat.reduceEqDiff, Nat.reduceLT, Nat.reduceLeDiff, Nat.reduceMod, Nat.reduceDiv, Int.reduceLT, Int.reduceLE, Int.reduceToNat, Int.reduceNeg, Int.reduceEq, Int.reduceBEq, Int.reduceBNe, Nat.reduceBEq, Int.reduceMul, Int.reduceAdd, Int.reduceSub, Int.reduceDiv, Int.reduceTDiv, Int.reduceTMod, Int.reduceMod]
          have hF' : Fwd S ((T.put (S.next + 1) (.blk [i64 n, i64 b, i64 ((f.toNat : Int) - 97 + 1), i64 0, i64 0, i64 0] 0 23)).put (S.next + 1) (.blk [i64 n, i64 b, i64 ((f.toNat : Int) - 97 + 1), i64 (dg2 10 g h), i64 0, i64 0] 0 23)) :=
            (hF.put (Nat.le_succ _) _).put (Nat.le_succ _) _
          rw [put_put] at hF'
          by_cases hc1 : (f.toNat : Int) - 97 + 1 < 1
          · simp only [hc1, g4, g5, go_sem, maxLenA, put_put, put_new, ne_up1, ne_dn1, ne_up2, ne_dn2, ne_up3, ne_dn3, ne_up4, ne_dn4, ne_up5, ne_dn5, ne_up6, ne_dn6, bytesOf, aMapUpdate, findA, keyEq, keyFits, aLookup, aAssert, mkIface, mkClo, wrap_i64, wrap_i32, wrap_u8, Int.cast_ofNat_Int, Option.some.injEq, Nat.reduceAdd, Nat.reduceSub, Nat.reduceMul, Nat.reduceEqDiff, Nat.reduceLT, Nat.reduceLeDiff, Nat.reduceMod, Nat.reduceDiv, Int.reduceLT, Int.reduceLE, Int.reduceToNat, Int.reduceNeg, Int.reduceEq, Int.reduceBEq, Int.reduceBNe, Nat.reduceBEq, Int.reduceMul, Int.reduceAdd, Int.reduceSub, Int.reduceDiv, Int.reduceTDiv, Int.reduceTMod, Int.reduceMod]
            with_reducible refine wc_is (wc18 _) ?_
            simp only [g2, z0, go_sem, maxLenA, put_put, put_new, ne_up1, ne_dn1, ne_up2, ne_dn2, ne_up3, ne_dn3, ne_up4, ne_dn4, ne_up5, ne_dn5, ne_up6, ne_dn6, bytesOf, aMapUpdate, findA, keyEq, keyFits, aLookup, aAssert, mkIface, mkClo, wrap_i64, wrap_i32, wrap_u8, Int.cast_ofNat_Int, Option.some.injEq, Nat.reduceAdd, Nat.reduceSub, Nat.reduceMul, Nat.reduceEqDiff, Nat.reduceLT, Nat.reduceLeDiff, Nat.reduceMod, Nat.reduceDiv, Int.reduceLT, Int.reduceLE, Int.reduceToNat, Int.reduceNeg, Int.reduceEq, Int.reduceBEq, Int.reduceBNe, Nat.reduceBEq, Int.reduceMul, Int.reduceAdd, Int.reduceSub, Int.reduceDiv, Int.reduceTDiv, Int.reduceTMod, Int.reduceMod]
            refine ends_fwd (hF'.put (Nat.le_refl _) _) rfl ⟨?_, rfl⟩
            rw [hpi, if_pos (.inl hc1)]
            rfl
          · by_cases hc2 : dg2 10 g h < 0
            · simp only [hc1, hc2, g4, g5, go_sem, maxLenA, put_put, put_new, ne_up1, ne_dn1, ne_up2, ne_dn2, ne_up3, ne_dn3, ne_up4, ne_dn4, ne_up5, ne_dn5, ne_up6, ne_dn6, bytesOf, aMapUpdate, findA, keyEq, keyFits, aLookup, aAssert, mkIface, mkClo, wrap_i64, wrap_i32, wrap_u8, Int.cast_ofNat_Int, Option.some.injEq, Nat.reduceAdd, Nat.reduceSub, Nat.reduceMul, Nat.reduceEqDiff, Nat.reduceLT, Nat.reduceLeDiff, Nat.reduceMod, Nat.reduceDiv, Int.reduceLT, Int.reduceLE, Int.reduceToNat, Int.reduceNeg, Int.reduceEq, Int.reduceBEq, Int.reduceBNe, Nat.reduceBEq, Int.reduceMul, Int.reduceAdd, Int.reduceSub, Int.reduceDiv, Int.reduceTDiv, Int.reduceTMod, Int.reduceMod]
              with_reducible refine wc_is (wc18 _) ?_
              simp only [g2, z0, go_sem, maxLenA, put_put, put_new, ne_up1, ne_dn1, ne_up2, ne_dn2, ne_up3, ne_dn3, ne_up4, ne_dn4, ne_up5, ne_dn5, ne_up6, ne_dn6, bytesOf, aMapUpdate, findA, keyEq, keyFits, aLookup, aAssert, mkIface, mkClo, wrap_i64, wrap_i32, wrap_u8, Int.cast_ofNat_Int, Option.some.injEq, Nat.reduceAdd, Nat.reduceSub, Nat.reduceMul, Nat.reduceEqDiff, Nat.reduceLT, Nat.reduceLeDiff, Nat.reduceMod, Nat.reduceDiv, Int.reduceLT, Int.reduceLE, Int.reduceToNat, Int.reduceNeg, Int.reduceEq, Int.reduceBEq, Int.reduceBNe, Nat.reduceBEq, Int.reduceMul, Int.reduceAdd, Int.reduceSub, Int.reduceDiv, Int.reduceTDiv, Int.reduceTMod, Int.reduceMod]
              refine ends_fwd (hF'.put (Nat.le_refl _) _) rfl ⟨?_, rfl⟩
              rw [hpi, if_pos (.inr hc2)]
              rfl
            · simp only [hc1, hc2, g4, g5, go_sem, maxLenA, put_put, put_new, ne_up1, ne_dn1, ne_up2, ne_dn2, ne_up3, ne_dn3, ne_up4, ne_dn4, ne_up5, ne_dn5, ne_up6, ne_dn6, bytesOf, aMapUpdate, findA, keyEq, keyFits, aLookup, aAssert, mkIface, mkClo, wrap_i64, wrap_i32, wrap_u8, Int.cast_ofNat_Int, Option.some.injEq, Nat.reduceAdd, Nat.reduceSub, Nat.reduceMul, Nat.reduceEqDiff, Nat.reduceLT, Nat.reduceLeDiff, Nat.reduceMod, Nat.reduceDiv, Int.reduceLT, Int.reduceLE, Int.reduceToNat, Int.reduceNeg, Int.reduceEq, Int.reduceBEq, Int.reduceBNe, Nat.reduceBEq, Int.reduceMul, Int.reduceAdd, Int.reduceSub, Int.reduceDiv, Int.reduceTDiv, Int.reduceTMod, Int.reduceMod]
              exact ⟨_, _, by rw [hpi, if_neg (by omega)], hF', by simp only [hN, go_sem, maxLenA, put_put, put_new, ne_up1, ne_dn1, ne_up2, ne_dn2, ne_up3, ne_dn3, ne_up4, ne_dn4, ne_up5, ne_dn5, ne_up6, ne_dn6, bytesOf, aMapUpdate, findA, keyEq, keyFits, aLookup, aAssert, mkIface, mkClo, wrap_i64, wrap_i32, wrap_u8, Int.cast_ofNat_Int, Option.some.injEq, Nat.reduceAdd, Nat.reduceSub, Nat.reduceMul, Nat.reduceEqDiff, Nat.reduceLT, Nat.reduceLeDiff, Nat.reduceMod, Nat.reduceDiv, Int.reduceLT, Int.reduceLE, Int.reduceToNat, Int.reduceNeg, Int.reduceEq, Int.reduceBEq, Int.reduceBNe, Nat.reduceBEq, Int.reduceMul, Int.reduceAdd, Int.reduceSub, Int.reduceDiv, Int.reduceTDiv, Int.reduceTMod, Int.reduceMod], by simp only [z0, go_sem, maxLenA, put_put, put_new, ne_up1, ne_dn1, ne_up2, ne_dn2, ne_up3, ne_dn3, ne_up4, ne_dn4, ne_up5, ne_dn5, ne_up6, ne_dn6, bytesOf, aMapUpdate, findA, keyEq, keyFits, aLookup, aAssert, mkIface, mkClo, wrap_i64, wrap_i32, wrap_u8, Int.cast_ofNat_Int, Option.some.injEq, Nat.reduceAdd, Nat.reduceSub, Nat.reduceMul, Nat.reduceEqDiff, Nat.reduceLT, Nat.reduceLeDiff, Nat.reduceMod, Nat.reduceDiv, Int.reduceLT, Int.reduceLE, Int.reduceToNat, Int.reduceNeg, Int.reduceEq, Int.reduceBEq, Int.reduceBNe, Nat.reduceBEq, Int.reduceMul, Int.reduceAdd, Int.reduceSub, Int.reduceDiv, Int.reduceTDiv, Int.reduceTMod, Int.reduceMod], by simp only [go_sem, maxLenA, put_put, put_new, ne_up1, ne_dn1, ne_up2, ne_dn2, ne_up3, ne_dn3, ne_up4, ne_dn4, ne_up5, ne_dn5, ne_up6, ne_dn6, bytesOf, aMapUpdate, findA, keyEq, keyFits, aLookup, aAssert, mkIface, mkClo, wrap_i64, wrap_i32, wrap_u8, Int.cast_ofNat_Int, Option.some.injEq, Nat.reduceAdd, Nat.reduceSub, Nat.reduceMul, Nat.reduceEqDiff, Nat.reduceLT, Nat.reduceLeDiff, Nat.reduceMod, Nat.reduceDiv, Int.reduceLT, Int.reduceLE, Int.reduceToNat, Int.reduceNeg, Int.reduceEq, Int.reduceBEq, Int.reduceBNe, Nat.reduceBEq, Int.reduceMul, Int.reduceAdd, Int.reduceSub, Int.reduceDiv, Int.reduceTDiv, Int.reduceTMod, Int.reduceMod], g2, g4, g5, g7, g8, g9⟩
      clear hF hN z0 z1 g2 g4 g5 g7 g8 g9
      -- the effect
      rintro e' T ⟨c', d', hpv, hF, hN, z0, z1, g2, g4, g5, g7, g8, g9⟩
      rw [hpv]
      simp only [g2, g4, g5, g7, g8, g9, go_sem, maxLenA, put_put, put_new, ne_up1, ne_dn1, ne_up2, ne_dn2, ne_up3, ne_dn3, ne_up4, ne_dn4, ne_up5, ne_dn5, ne_up6, ne_dn6, bytesOf, aMapUpdate, findA, keyEq, keyFits, aLookup, aAssert, mkIface, mkClo, wrap_i64, wrap_i32, wrap_u8, Int.cast_ofNat_Int, Option.some.injEq, Nat.reduceAdd, Nat.reduceSub, Nat.reduceMul, Nat.reduceEqDiff, Nat.reduceLT, Nat.reduceLeDiff, Nat.reduceMod, Nat.reduceDiv, Int.reduceLT, Int.reduceLE, Int.reduceToNat, Int.reduceNeg, Int.reduceEq, Int.reduceBEq, Int.reduceBNe, Nat.reduceBEq, Int.reduceMul, Int.reduceAdd, Int.reduceSub, Int.reduceDiv, Int.reduceTDiv, Int.reduceTMod, Int.reduceMod]
      refine condK_cut (fun e' S' => ∃ x y, pEff i j k = some (x, y) ∧ pM S n b c' d' x y [d, e] [f, g, h] [i, j, k] e' S') ?_ ?_
      · by_cases hd : i = 46 ∧ j = 46 ∧ k = 46
        · obtain ⟨rfl, rfl, rfl⟩ := hd
          simp only [bne_self_eq_false, go_sem, maxLenA, put_put, put_new, ne_up1, ne_dn1, ne_up2, ne_dn2, ne_up3, ne_dn3, ne_up4, ne_dn4, ne_up5, ne_dn5, ne_up6, ne_dn6, bytesOf, aMapUpdate, findA, keyEq, keyFits, aLookup, aAssert, mkIface, mkClo, wrap_i64, wrap_i32, wrap_u8, Int.cast_ofNat_Int, Option.some.injEq, Nat.reduceAdd, Nat.reduceSub, Nat.reduceMul, Nat.reduceEqDiff, Nat.reduceLT, Nat.reduceLeDiff, Nat.reduceMod, Nat.reduceDiv, Int.reduceLT, Int.reduceLE, Int.reduceToNat, Int.reduceNeg, Int.reduceEq, Int.reduceBEq, Int.reduceBNe, Nat.reduceBEq, Int.reduceMul, Int.reduceAdd, Int.reduceSub, Int.reduceDiv, Int.reduceTDiv, Int.reduceTMod, Int.reduceMod]
          exact ⟨0, 0, rfl, hF, hN, z0, z1, g2, g4, g5, g7, g8, g9⟩
        · have hb : ([i, j, k] != [46, 46, 46]) = true := by simp; exact fun h1 h2 h3 => hd ⟨h1, h2, h3⟩
          have hdv := dg2_bound 16 (by decide) j k
          have hpi : pEff i j k = if plc (i.toNat : Int) effs 0 + 1 < 1 ∨ dg2 16 j k < 0 then none else some (plc (i.toNat : Int) effs 0 + 1, dg2 16 j k) := by rw [pEff, if_neg hd]
          have hpl : -1 ≤ plc (i.toNat : Int) effs 0 ∧ plc (i.toNat : Int) effs 0 < 36 := by
            rcases plc_bound (i.toNat : Int) effs 0 with h | ⟨k', h1, h2⟩
            · omega
            · rw [effs_len] at h2; omega
          simp only [hb, g9, go_sem, maxLenA, put_put, put_new, ne_up1, ne_dn1, ne_up2, ne_dn2, ne_up3, ne_dn3, ne_up4, ne_dn4, ne_up5, ne_dn5, ne_up6, ne_dn6, bytesOf, aMapUpdate, findA, keyEq, keyFits, aLookup, aAssert, mkIface, mkClo, wrap_i64, wrap_i32, wrap_u8, Int.cast_ofNat_Int, Option.some.injEq, Nat.reduceAdd, Nat.reduceSub, Nat.reduceMul, Nat.reduceEqDiff, Nat.reduceLT, Nat.reduceLeDiff, Nat.reduceMod, Nat.reduceDiv, Int.reduceLT, Int.reduceLE, Int.reduceToNat, Int.reduceNeg, Int.reduceEq, Int.reduceBEq, Int.reduceBNe, Nat.reduceBEq, Int.reduceMul, Int.reduceAdd, Int.reduceSub, Int.reduceDiv, Int.reduceTDiv, Int.reduceTMod, Int.reduceMod]
          refine wdraw_plan ch8x26 pp8x26 (by kernel_rfl) (by kernel_rfl) (by kernel_rfl) ?_
          have w1 : IntKind.i64.wrap (plc (i.toNat : Int) effs 0 + 1) = plc (i.toNat : Int) effs 0 + 1 := wrap_i64 _ (by omega) (by omega)
          simp only [g5, g9, go_sem, maxLenA, put_put, put_new, ne_up1, ne_dn1, ne_up2, ne_dn2, ne_up3, ne_dn3, ne_up4, ne_dn4, ne_up5, ne_dn5, ne_up6, ne_dn6, bytesOf, aMapUpdate, findA, keyEq, keyFits, aLookup, aAssert, mkIface, mkClo, wrap_i64, wrap_i32, wrap_u8, Int.cast_ofNat_Int, Option.some.injEq, Nat.reduceAdd, Nat.reduceSub, Nat.reduceMul, Nat.reduceEqDiff, Nat.reduceLT, Nat.reduceLeDiff, Nat.reduceMod, Nat.reduceDiv, Int.reduceLT, Int.reduceLE, Int.reduceToNat, Int.reduceNeg, Int.reduceEq, Int.reduceBEq, Int.reduceBNe, Nat.reduceBEq, Int.reduceMul, Int.reduceAdd, Int.reduceSub, Int.reduceDiv, Int.reduceTDiv, Int.reduceTMod, Int.reduceMod]
          refine ⟨_, wc21' effs i _, ?_⟩
          simp only [g5, g9, w1, go_sem, maxLenA, put_put, put_new, ne_up1, ne_dn1, ne_up2, ne_dn2, ne_up3, ne_dn3, ne_up4, ne_dn4, ne_up5, ne_dn5, ne_up6, ne_dn6, bytesOf, aMapUpdate, findA, keyEq, keyFits, aLookup, aAssert, mkIface, mkClo, wrap_i64, wrap_i32, wrap_u8, Int.cast_ofNat_Int, Option.some.injEq, Nat.reduceAdd, Nat.reduceSub, Nat.reduceMul, Nat.reduceEqDiff, Nat.reduceLT, Nat.reduceLeDiff, Nat.reduceMod, Nat.reduceDiv, Int.reduceLT, Int.reduceLE, Int.reduceToNat, Int.reduceNeg, Int.reduceEq, Int.reduceBEq, Int.reduceBNe, Nat.reduceBEq, Int.reduceMul, Int.reduceAdd, Int.reduceSub, Int.reduceDiv, Int.reduceTDiv, Int.reduceTMod, Int.reduceMod]
          refine ⟨_, wc20 j k 16 (by decide) (by decide) _, ?_⟩
          simp only [g5, g9, w1, z0, z1, go_sem, maxLenA, put_put, put_new, ne_up1, ne_dn1, ne_up2, ne_dn2, ne_up3, ne_dn3, ne_up4, ne_dn4, ne_up5, ne_dn5, ne_up6, ne_dn6, bytesOf, aMapUpdate, findA, keyEq, keyFits, aLookup, aAssert, mkIface, mkClo, wrap_i64, wrap_i32, wrap_u8, Int.cast_ofNat_Int, Option.some.injEq, Nat.reduceAdd, Nat.reduceSub, Nat.reduceMul, Nat.reduceEqDiff, Nat.reduceLT, Nat.reduceLeDiff, Nat.reduceMod, Nat.reduceDiv, Int.reduceLT, Int.reduceLE, Int.reduceToNat, Int.reduceNeg, Int.reduceEq, Int.reduceBEq, Int.reduceBNe, Nat.reduceBEq, Int.reduceMul, Int.reduceAdd, Int.reduceSub, Int.reduceDiv, Int.reduceTDiv, Int.reduceTMod, Int.reduceMod]
          have hF' : Fwd S (T.put (S.next + 1) (.blk [i64 n, i64 b, i64 c', i64 d', i64 (plc (i.toNat : Int) effs 0 + 1), i64 (dg2 16 j k)] 0 23)) :=
            (hF.put (Nat.le_succ _) _)
          by_cases hc1 : plc (i.toNat : Int) effs 0 + 1 < 1
          · simp only [hc1, g4, g5, go_sem, maxLenA, put_put, put_new, ne_up1, ne_dn1, ne_up2, ne_dn2, ne_up3, ne_dn3, ne_up4, ne_dn4, ne_up5, ne_dn5, ne_up6, ne_dn6, bytesOf, aMapUpdate, findA, keyEq, keyFits, aLookup, aAssert, mkIface, mkClo, wrap_i64, wrap_i32, wrap_u8, Int.cast_ofNat_Int, Option.some.injEq, Nat.reduceAdd, Nat.reduceSub, Nat.reduceMul, Nat.reduceEqDiff, Nat.reduceLT, Nat.reduceLeDiff, Nat.reduceMod, Nat.reduceDiv, Int.reduceLT, Int.reduceLE, Int.reduceToNat, Int.reduceNeg, Int.reduceEq, Int.reduceBEq, Int.reduceBNe, Nat.reduceBEq, Int.reduceMul, Int.reduceAdd, Int.reduceSub, Int.reduceDiv, Int.reduceTDiv, Int.reduceTMod, Int.reduceMod]
            with_reducible refine wc_is (wc18 _) ?_
            simp only [g2, z0, go_sem, maxLenA, put_put, put_new, ne_up1, ne_dn1, ne_up2, ne_dn2, ne_up3, ne_dn3, ne_up4, ne_dn4, ne_up5, ne_dn5, ne_up6, ne_dn6, bytesOf, aMapUpdate, findA, keyEq, keyFits, aLookup, aAssert, mkIface, mkClo, wrap_i64, wrap_i32, wrap_u8, Int.cast_ofNat_Int, Option.some.injEq, Nat.reduceAdd, Nat.reduceSub, Nat.reduceMul, Nat.reduceEqDiff, Nat.reduceLT, Nat.reduceLeDiff, Nat.reduceMod, Nat.reduceDiv, Int.reduceLT, Int.reduceLE, Int.reduceToNat, Int.reduceNeg, Int.reduceEq, Int.reduceBEq, Int.reduceBNe, Nat.reduceBEq, Int.reduceMul, Int.reduceAdd, Int.reduceSub, Int.reduceDiv, Int.reduceTDiv, Int.reduceTMod, Int.reduceMod]
            refine ends_fwd (hF'.put (Nat.le_refl _) _) rfl ⟨?_, rfl⟩
            rw [hpi, if_pos (.inl hc1)]
            rfl
          · by_cases hc2 : dg2 16 j k < 0
            · simp only [hc1, hc2, g4, g5, go_sem, maxLenA, put_put, put_new, ne_up1, ne_dn1, ne_up2, ne_dn2, ne_up3, ne_dn3, ne_up4, ne_dn4, ne_up5, ne_dn5, ne_up6, ne_dn6, bytesOf, aMapUpdate, findA, keyEq, keyFits, aLookup, aAssert, mkIface, mkClo, wrap_i64, wrap_i32, wrap_u8, Int.cast_ofNat_Int, Option.some.injEq, Nat.reduceAdd, Nat.reduceSub, Nat.reduceMul, Nat.reduceEqDiff, Nat.reduceLT, Nat.reduceLeDiff, Nat.reduceMod, Nat.reduceDiv, Int.reduceLT, Int.reduceLE, Int.reduceToNat, Int.reduceNeg, Int.reduceEq, Int.reduceBEq, Int.reduceBNe, Nat.reduceBEq, Int.reduceMul, Int.reduceAdd, Int.reduceSub, Int.reduceDiv, Int.reduceTDiv, Int.reduceTMod, Int.reduceMod]
              with_reducible refine wc_is (wc18 _) ?_
              simp only [g2, z0, go_sem, maxLenA, put_put, put_new, ne_up1, ne_dn1, ne_up2, ne_dn2, ne_up3, ne_dn3, ne_up4, ne_dn4, ne_up5, ne_dn5, ne_up6, ne_dn6, bytesOf, aMapUpdate, findA, keyEq, keyFits, aLookup, aAssert, mkIface, mkClo, wrap_i64, wrap_i32, wrap_u8, Int.cast_ofNat_Int, Option.some.injEq, Nat.reduceAdd, Nat.reduceSub, Nat.reduceMul, Nat.reduceEqDiff, Nat.reduceLT, Nat.reduceLeDiff, Nat.reduceMod, Nat.reduceDiv, Int.reduceLT, Int.reduceLE, Int.reduceToNat, Int.reduceNeg, Int.reduceEq, Int.reduceBEq, Int.reduceBNe, Nat.reduceBEq, Int.reduceMul, Int.reduceAdd, Int.reduceSub, Int.reduceDiv, Int.reduceTDiv, Int.reduceTMod, Int.reduceMod]
              refine ends_fwd (hF'.put (Nat.le_refl _) _) rfl ⟨?_, rfl⟩
              rw [hpi, if_pos (.inr hc2)]
              rfl
            · simp only [hc1, hc2, g4, g5, go_sem, maxLenA, put_put, put_new, ne_up1, ne_dn1, ne_up2, ne_dn2, ne_up3, ne_dn3, ne_up4, ne_dn4, ne_up5, ne_dn5, ne_up6, ne_dn6, bytesOf, aMapUpdate, findA, keyEq, keyFits, aLookup, aAssert, mkIface, mkClo, wrap_i64, wrap_i32, wrap_u8, Int.cast_ofNat_Int, Option.some.injEq, Nat.reduceAdd, Nat.reduceSub, Nat.reduceMul, Nat.reduceEqDiff, Nat.reduceLT, Nat.reduceLeDiff, Nat.reduceMod, Nat.reduceDiv, Int.reduceLT, Int.reduceLE, Int.reduceToNat, Int.reduceNeg, Int.reduceEq, Int.reduceBEq, Int.reduceBNe, Nat.reduceBEq, Int.reduceMul, Int.reduceAdd, Int.reduceSub, Int.reduceDiv, Int.reduceTDiv, Int.reduceTMod, Int.reduceMod]
              exact ⟨_, _, by rw [hpi, if_neg (by omega)], hF', by simp only [hN, go_sem, maxLenA, put_put, put_new, ne_up1, ne_dn1, ne_up2, ne_dn2, ne_up3, ne_dn3, ne_up4, ne_dn4, ne_up5, ne_dn5, ne_up6, ne_dn6, bytesOf, aMapUpdate, findA, keyEq, keyFits, aLookup, aAssert, mkIface, mkClo, wrap_i64, wrap_i32, wrap_u8, Int.cast_ofNat_Int, Option.some.injEq, Nat.reduceAdd, Nat.reduceSub, Nat.reduceMul, Nat.reduceEqDiff, Nat.reduceLT, Nat.reduceLeDiff, Nat.reduceMod, Nat.reduceDiv, Int.reduceLT, Int.reduceLE, Int.reduceToNat, Int.reduceNeg, Int.reduceEq, Int.reduceBEq, Int.reduceBNe, Nat.reduceBEq, Int.reduceMul, Int.reduceAdd, Int.reduceSub, Int.reduceDiv, Int.reduceTDiv, Int.reduceTMod, Int.reduceMod], by simp only [z0, go_sem, maxLenA, put_put, put_new, ne_up1, ne_dn1, ne_up2, ne_dn2, ne_up3, ne_dn3, ne_up4, ne_dn4, ne_up5, ne_dn5, ne_up6, ne_dn6, bytesOf, aMapUpdate, findA, keyEq, keyFits, aLookup, aAssert, mkIface, mkClo, wrap_i64, wrap_i32, wrap_u8, Int.cast_ofNat_Int, Option.some.injEq, Nat.reduceAdd, Nat.reduceSub, Nat.reduceMul, Nat.reduceEqDiff, Nat.reduceLT, Nat.reduceLeDiff, Nat.reduceMod, Nat.reduceDiv, Int.reduceLT, Int.reduceLE, Int.reduceToNat, Int.reduceNeg, Int.reduceEq, Int.reduceBEq, Int.reduceBNe, Nat.reduceBEq, Int.reduceMul, Int.reduceAdd, Int.reduceSub, Int.reduceDiv, Int.reduceTDiv, Int.reduceTMod, Int.reduceMod], by simp only [go_sem, maxLenA, put_put, put_new, ne_up1, ne_dn1, ne_up2, ne_dn2, ne_up3, ne_dn3, ne_up4, ne_dn4, ne_up5, ne_dn5, ne_up6, ne_dn6, bytesOf, aMapUpdate, findA, keyEq, keyFits, aLookup, aAssert, mkIface, mkClo, wrap_i64, wrap_i32, wrap_u8, Int.cast_ofNat_Int, Option.some.injEq, Nat.reduceAdd, Nat.reduceSub, Nat.reduceMul, Nat.reduceEqDiff, Nat.reduceLT, Nat.reduceLeDiff, Nat.reduceMod, Nat.reduceDiv, Int.reduceLT, Int.reduceLE, Int.reduceToNat, Int.reduceNeg, Int.reduceEq, Int.reduceBEq, Int.reduceBNe, Nat.reduceBEq, Int.reduceMul, Int.reduceAdd, Int.reduceSub, Int.reduceDiv, Int.reduceTDiv, Int.reduceTMod, Int.reduceMod], g2, g4, g5, g7, g8, g9⟩
      clear hF hN z0 z1 g2 g4 g5 g7 g8 g9
      -- is it valid?
      rintro e' T ⟨x, y, hpe, hF, hN, z0, z1, g2, g4, g5, g7, g8, g9⟩
      rw [hpe]
      simp only [g2, g4, g5, z0, z1, go_sem, maxLenA, put_put, put_new, ne_up1, ne_dn1, ne_up2, ne_dn2, ne_up3, ne_dn3, ne_up4, ne_dn4, ne_up5, ne_dn5, ne_up6, ne_dn6, bytesOf, aMapUpdate, findA, keyEq, keyFits, aLookup, aAssert, mkIface, mkClo, wrap_i64, wrap_i32, wrap_u8, Int.cast_ofNat_Int, Option.some.injEq, Nat.reduceAdd, Nat.reduceSub, Nat.reduceMul, Nat.reduceEqDiff, Nat.reduceLT, Nat.reduceLeDiff, Nat.reduceMod, Nat.reduceDiv, Int.reduceLT, Int.reduceLE, Int.reduceToNat, Int.reduceNeg, Int.reduceEq, Int.reduceBEq, Int.reduceBNe, Nat.reduceBEq, Int.reduceMul, Int.reduceAdd, Int.reduceSub, Int.reduceDiv, Int.reduceTDiv, Int.reduceTMod, Int.reduceMod]
      with_reducible refine wc_is (wc6 n b c' d' x y _) ?_
      cases hv : validC n b c' d' x y with
      | false =>
        simp only [hv, g4, go_sem, maxLenA, put_put, put_new, ne_up1, ne_dn1, ne_up2, ne_dn2, ne_up3, ne_dn3, ne_up4, ne_dn4, ne_up5, ne_dn5, ne_up6, ne_dn6, bytesOf, aMapUpdate, findA, keyEq, keyFits, aLookup, aAssert, mkIface, mkClo, wrap_i64, wrap_i32, wrap_u8, Int.cast_ofNat_Int, Option.some.injEq, Nat.reduceAdd, Nat.reduceSub, Nat.reduceMul, Nat.reduceEqDiff, Nat.reduceLT, Nat.reduceLeDiff, Nat.reduceMod, Nat.reduceDiv, Int.reduceLT, Int.reduceLE, Int.reduceToNat, Int.reduceNeg, Int.reduceEq, Int.reduceBEq, Int.reduceBNe, Nat.reduceBEq, Int.reduceMul, Int.reduceAdd, Int.reduceSub, Int.reduceDiv, Int.reduceTDiv, Int.reduceTMod, Int.reduceMod]
        with_reducible refine wc_is (wc18 _) ?_
        simp only [g2, z0, go_sem, maxLenA, put_put, put_new, ne_up1, ne_dn1, ne_up2, ne_dn2, ne_up3, ne_dn3, ne_up4, ne_dn4, ne_up5, ne_dn5, ne_up6, ne_dn6, bytesOf, aMapUpdate, findA, keyEq, keyFits, aLookup, aAssert, mkIface, mkClo, wrap_i64, wrap_i32, wrap_u8, Int.cast_ofNat_Int, Option.some.injEq, Nat.reduceAdd, Nat.reduceSub, Nat.reduceMul, Nat.reduceEqDiff, Nat.reduceLT, Nat.reduceLeDiff, Nat.reduceMod, Nat.reduceDiv, Int.reduceLT, Int.reduceLE, Int.reduceToNat, Int.reduceNeg, Int.reduceEq, Int.reduceBEq, Int.reduceBNe, Nat.reduceBEq, Int.reduceMul, Int.reduceAdd, Int.reduceSub, Int.reduceDiv, Int.reduceTDiv, Int.reduceTMod, Int.reduceMod]
        refine ends_fwd (hF.put (Nat.le_refl _) _) rfl ⟨?_, rfl⟩
        simp [pAll, hv, cellA]
      | true =>
        simp only [hv, g4, g5, g2, z0, z1, go_sem, maxLenA, put_put, put_new, ne_up1, ne_dn1, ne_up2, ne_dn2, ne_up3, ne_dn3, ne_up4, ne_dn4, ne_up5, ne_dn5, ne_up6, ne_dn6, bytesOf, aMapUpdate, findA, keyEq, keyFits, aLookup, aAssert, mkIface, mkClo, wrap_i64, wrap_i32, wrap_u8, Int.cast_ofNat_Int, Option.some.injEq, Nat.reduceAdd, Nat.reduceSub, Nat.reduceMul, Nat.reduceEqDiff, Nat.reduceLT, Nat.reduceLeDiff, Nat.reduceMod, Nat.reduceDiv, Int.reduceLT, Int.reduceLE, Int.reduceToNat, Int.reduceNeg, Int.reduceEq, Int.reduceBEq, Int.reduceBNe, Nat.reduceBEq, Int.reduceMul, Int.reduceAdd, Int.reduceSub, Int.reduceDiv, Int.reduceTDiv, Int.reduceTMod, Int.reduceMod]
        refine ends_fwd (hF.put (Nat.le_refl _) _) rfl ⟨?_, rfl⟩
        simp [pAll, hv, cellA]
    · have hp : parseP [a, b, c, s1, d, e, s2, f, g, h, s3, i, j, k] = none := by rw [parseP, if_neg hs]
      rw [hp]
      have kk : ∀ s : UInt8, ¬ s = 32 → ((s.toNat : Int) != 32) = true := fun s h => by
        have := u8_ne s 32
        rw [decide_eq_false h] at this
        exact this
      by_cases h1 : s1 = 32
      · subst h1
        by_cases h2 : s2 = 32
        · subst h2
          have h3 : ¬ s3 = 32 := fun h => hs ⟨rfl, rfl, h⟩
          have k3 := kk s3 h3
          simp only [bne_self_eq_false, UInt8.toNat_ofNat, Nat.reduceMod, Nat.reducePow, k3, go_sem, maxLenA, put_put, put_new, ne_up1, ne_dn1, ne_up2, ne_dn2, ne_up3, ne_dn3, ne_up4, ne_dn4, ne_up5, ne_dn5, ne_up6, ne_dn6, bytesOf, aMapUpdate, findA, keyEq, keyFits, aLookup, aAssert, mkIface, mkClo, wrap_i64, wrap_i32, wrap_u8, Int.cast_ofNat_Int, Option.some.injEq, Nat.reduceAdd, Nat.reduceSub, Nat.reduceMul, Nat.reduceEqDiff, Nat.reduceLT, Nat.reduceLeDiff, Nat.reduceMod, Nat.reduceDiv, Int.reduceLT, Int.reduceLE, Int.reduceToNat, Int.reduceNeg, Int.reduceEq, Int.reduceBEq, Int.reduceBNe, Nat.reduceBEq, Int.reduceMul, Int.reduceAdd, Int.reduceSub, Int.reduceDiv, Int.reduceTDiv, Int.reduceTMod, Int.reduceMod]
          with_reducible refine wc_is (wc18 _) ?_
          simp only [go_sem, maxLenA, put_put, put_new, ne_up1, ne_dn1, ne_up2, ne_dn2, ne_up3, ne_dn3, ne_up4, ne_dn4, ne_up5, ne_dn5, ne_up6, ne_dn6, bytesOf, aMapUpdate, findA, keyEq, keyFits, aLookup, aAssert, mkIface, mkClo, wrap_i64, wrap_i32, wrap_u8, Int.cast_ofNat_Int, Option.some.injEq, Nat.reduceAdd, Nat.reduceSub, Nat.reduceMul, Nat.reduceEqDiff, Nat.reduceLT, Nat.reduceLeDiff, Nat.reduceMod, Nat.reduceDiv, Int.reduceLT, Int.reduceLE, Int.reduceToNat, Int.reduceNeg, Int.reduceEq, Int.reduceBEq, Int.reduceBNe, Nat.reduceBEq, Int.reduceMul, Int.reduceAdd, Int.reduceSub, Int.reduceDiv, Int.reduceTDiv, Int.reduceTMod, Int.reduceMod]
          exact ends_popped rfl (by simp only [popOk_new, popOk_put_ge, hS.2, next_new, next_put, Nat.le_refl, Nat.le_add_right]) (by simp only [pop_put, pop_new, pop_self hS.1, next_new, next_put, Nat.le_refl, Nat.le_add_right]) ⟨rfl, rfl⟩
        · have k2 := kk s2 h2
          simp only [bne_self_eq_false, UInt8.toNat_ofNat, Nat.reduceMod, Nat.reducePow, k2, go_sem, maxLenA, put_put, put_new, ne_up1, ne_dn1, ne_up2, ne_dn2, ne_up3, ne_dn3, ne_up4, ne_dn4, ne_up5, ne_dn5, ne_up6, ne_dn6, bytesOf, aMapUpdate, findA, keyEq, keyFits, aLookup, aAssert, mkIface, mkClo, wrap_i64, wrap_i32, wrap_u8, Int.cast_ofNat_Int, Option.some.injEq, Nat.reduceAdd, Nat.reduceSub, Nat.reduceMul, Nat.reduceEqDiff, Nat.reduceLT, Nat.reduceLeDiff, Nat.reduceMod, Nat.reduceDiv, Int.reduceLT, Int.reduceLE, Int.reduceToNat, Int.reduceNeg, Int.reduceEq, Int.reduceBEq, Int.reduceBNe, Nat.reduceBEq, Int.reduceMul, Int.reduceAdd, Int.reduceSub, Int.reduceDiv, Int.reduceTDiv, Int.reduceTMod, Int.reduceMod]
          with_reducible refine wc_is (wc18 _) ?_
          simp only [go_sem, maxLenA, put_put, put_new, ne_up1, ne_dn1, ne_up2, ne_dn2, ne_up3, ne_dn3, ne_up4, ne_dn4, ne_up5, ne_dn5, ne_up6, ne_dn6, bytesOf, aMapUpdate, findA, keyEq, keyFits, aLookup, aAssert, mkIface, mkClo, wrap_i64, wrap_i32, wrap_u8, Int.cast_ofNat_Int, Option.some.injEq, Nat.reduceAdd, Nat.reduceSub, Nat.reduceMul, Nat.reduceEqDiff, Nat.reduceLT, Nat.reduceLeDiff, Nat.reduceMod, Nat.reduceDiv, Int.reduceLT, Int.reduceLE, Int.reduceToNat, Int.reduceNeg, Int.reduceEq, Int.reduceBEq, Int.reduceBNe, Nat.reduceBEq, Int.reduceMul, Int.reduceAdd, Int.reduceSub, Int.reduceDiv, Int.reduceTDiv, Int.reduceTMod, Int.reduceMod]
          exact ends_popped rfl (by simp only [popOk_new, popOk_put_ge, hS.2, next_new, next_put, Nat.le_refl, Nat.le_add_right]) (by simp only [pop_put, pop_new, pop_self hS.1, next_new, next_put, Nat.le_refl, Nat.le_add_right]) ⟨rfl, rfl⟩
      · have k1 := kk s1 h1
        simp only [bne_self_eq_false, k1, go_sem, maxLenA, put_put, put_new, ne_up1, ne_dn1, ne_up2, ne_dn2, ne_up3, ne_dn3, ne_up4, ne_dn4, ne_up5, ne_dn5, ne_up6, ne_dn6, bytesOf, aMapUpdate, findA, keyEq, keyFits, aLookup, aAssert, mkIface, mkClo, wrap_i64, wrap_i32, wrap_u8, Int.cast_ofNat_Int, Option.some.injEq, Nat.reduceAdd, Nat.reduceSub, Nat.reduceMul, Nat.reduceEqDiff, Nat.reduceLT, Nat.reduceLeDiff, Nat.reduceMod, Nat.reduceDiv, Int.reduceLT, Int.reduceLE, Int.reduceToNat, Int.reduceNeg, Int.reduceEq, Int.reduceBEq, Int.reduceBNe, Nat.reduceBEq, Int.reduceMul, Int.reduceAdd, Int.reduceSub, Int.reduceDiv, Int.reduceTDiv, Int.reduceTMod, Int.reduceMod]
        with_reducible refine wc_is (wc18 _) ?_
        simp only [go_sem, maxLenA, put_put, put_new, ne_up1, ne_dn1, ne_up2, ne_dn2, ne_up3, ne_dn3, ne_up4, ne_dn4, ne_up5, ne_dn5, ne_up6, ne_dn6, bytesOf, aMapUpdate, findA, keyEq, keyFits, aLookup, aAssert, mkIface, mkClo, wrap_i64, wrap_i32, wrap_u8, Int.cast_ofNat_Int, Option.some.injEq, Nat.reduceAdd, Nat.reduceSub, Nat.reduceMul, Nat.reduceEqDiff, Nat.reduceLT, Nat.reduceLeDiff, Nat.reduceMod, Nat.reduceDiv, Int.reduceLT, Int.reduceLE, Int.reduceToNat, Int.reduceNeg, Int.reduceEq, Int.reduceBEq, Int.reduceBNe, Nat.reduceBEq, Int.reduceMul, Int.reduceAdd, Int.reduceSub, Int.reduceDiv, Int.reduceTDiv, Int.reduceTMod, Int.reduceMod]
        exact ends_popped rfl (by simp only [popOk_new, popOk_put_ge, hS.2, next_new, next_put, Nat.le_refl, Nat.le_add_right]) (by simp only [pop_put, pop_new, pop_self hS.1, next_new, next_put, Nat.le_refl, Nat.le_add_right]) ⟨rfl, rfl⟩
  · have h4 : ((l.length : Int) != 14) = true := by simp; omega
    simp only [h4, go_sem, maxLenA, put_put, put_new, ne_up1, ne_dn1, ne_up2, ne_dn2, ne_up3, ne_dn3, ne_up4, ne_dn4, ne_up5, ne_dn5, ne_up6, ne_dn6, bytesOf, aMapUpdate, findA, keyEq, keyFits, aLookup, aAssert, mkIface, mkClo, wrap_i64, wrap_i32, wrap_u8, Int.cast_ofNat_Int, Option.some.injEq, Nat.reduceAdd, Nat.reduceSub, Nat.reduceMul, Nat.reduceEqDiff, Nat.reduceLT, Nat.reduceLeDiff, Nat.reduceMod, Nat.reduceDiv, Int.reduceLT, Int.reduceLE, Int.reduceToNat, Int.reduceNeg, Int.reduceEq, Int.reduceBEq, Int.reduceBNe, Nat.reduceBEq, Int.reduceMul, Int.reduceAdd, Int.reduceSub, Int.reduceDiv, Int.reduceTDiv, Int.reduceTMod, Int.reduceMod]
    with_reducible refine wc_is (wc18 _) ?_
    simp only [go_sem, maxLenA, put_put, put_new, ne_up1, ne_dn1, ne_up2, ne_dn2, ne_up3, ne_dn3, ne_up4, ne_dn4, ne_up5, ne_dn5, ne_up6, ne_dn6, bytesOf, aMapUpdate, findA, keyEq, keyFits, aLookup, aAssert, mkIface, mkClo, wrap_i64, wrap_i32, wrap_u8, Int.cast_ofNat_Int, Option.some.injEq, Nat.reduceAdd, Nat.reduceSub, Nat.reduceMul, Nat.reduceEqDiff, Nat.reduceLT, Nat.reduceLeDiff, Nat.reduceMod, Nat.reduceDiv, Int.reduceLT, Int.reduceLE, Int.reduceToNat, Int.reduceNeg, Int.reduceEq, Int.reduceBEq, Int.reduceBNe, Nat.reduceBEq, Int.reduceMul, Int.reduceAdd, Int.reduceSub, Int.reduceDiv, Int.reduceTDiv, Int.reduceTMod, Int.reduceMod]
    refine ends_popped rfl (by simp only [popOk_new, popOk_put_ge, hS.2, next_new, next_put, Nat.le_refl, Nat.le_add_right]) (by simp only [pop_put, pop_new, pop_self hS.1, next_new, next_put, Nat.le_refl, Nat.le_add_right]) ⟨?_, rfl⟩
    have : parseP l = none := by
      unfold parseP
      split
      · exact absurd rfl h14
      · rfl
    rw [this]; rfl

end Go.Proofs.Ytnnbhfoimaodhaa
