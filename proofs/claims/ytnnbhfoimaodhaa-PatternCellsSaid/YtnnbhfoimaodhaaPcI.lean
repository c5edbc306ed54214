/-
  Contracts of the functions that 'orchestrionlaw05.PatternCells' reaches: the document's Parse.
-/
import Derived.Test.YtnnbhfoimaodhaaPcH
namespace Go.Proofs.Ytnnbhfoimaodhaa
open Go.Abs
set_option linter.unusedVariables false
set_option linter.unusedSimpArgs false
set_option maxHeartbeats 1000000
attribute [local go_sem] sz0 ag0 in0 sz1 ag1 ze1 in1 sz2 ag2 ze2 in2 sz3 ag3 ze3 in3 sz4 ag4 ze4 in4 sz5 ag5 ze5 in5 sz6 ag6 ze6 in6 sz7 ag7 ze7 fi7x0 pl7x0 fi7x1 pl7x1 fi7x2 pl7x2 fi7x3 pl7x3 po7 in7 sz8 ag8 ze8 fi8x0 pl8x0 fi8x1 pl8x1 fi8x2 pl8x2 fi8x3 pl8x3 po8 in8 sz9 ag9 ze9 in9 sz10 ag10 ze10 in10 sz11 ag11 ze11 in11 sz12 ag12 ze12 in12 sz13 ag13 ze13 fi13x0 pl13x0 fi13x1 pl13x1 po13 in13 sz14 ag14 ze14 fi14x0 pl14x0 fi14x1 pl14x1 po14 in14 sz15 ag15 ze15 in15 sz16 ag16 ze16 in16 sz17 ag17 ze17 in17 sz18 ag18 ze18 fi18x0 pl18x0 po18 in18 sz19 ag19 ze19 fi19x0 pl19x0 po19 in19 sz20 ag20 ze20 in20 sz21 ag21 ze21 in21 sz22 ag22 ze22 fi22x0 pl22x0 fi22x1 pl22x1 fi22x2 pl22x2 fi22x3 pl22x3 fi22x4 pl22x4 fi22x5 pl22x5 po22 in22 sz23 ag23 ze23 fi23x0 pl23x0 fi23x1 pl23x1 fi23x2 pl23x2 fi23x3 pl23x3 fi23x4 pl23x4 fi23x5 pl23x5 po23 in23 sz24 ag24 ze24 in24 sz25 ag25 in25 sz26 ag26 ze26 in26 sz27 ag27 ze27 in27 sz28 ag28 in28 sz29 ag29 ze29 in29 sz30 ag30 ze30 in30 sz31 ag31 ze31 in31 sz32 ag32 in32 sz33 ag33 ze33 mp33 in33 sz34 ag34 ze34 in34 sz35 ag35 ze35 in35 sz36 ag36 ze36 el36 in36 sz37 ag37 ze37 in37 sz38 ag38 ze38 in38 sz39 ag39 ze39 el39 in39 sz40 ag40 ze40 in40 sz41 ag41 ze41 in41 sz42 ag42 in42 sz43 ag43 ze43 in43 sz44 ag44 ze44 in44 sz45 ag45 ze45 in45 sz46 ag46 ze46 el46 in46 sz47 ag47 in47 sz48 ag48 ze48 in48 sz49 ag49 ze49 el49 in49 sz50 ag50 ze50 fi50x0 pl50x0 fi50x1 pl50x1 po50 in50 sz51 ag51 ze51 fi51x0 pl51x0 fi51x1 pl51x1 po51 in51 sz52 ag52 ze52 in52 sz53 ag53 ze53 in53 sz54 ag54 ze54 fi54x0 pl54x0 fi54x1 pl54x1 po54 in54 sz55 ag55 ze55 fi55x0 pl55x0 fi55x1 pl55x1 po55 in55 sz56 ag56 ze56 in56 sz57 ag57 ze57 in57 sz58 ag58 ze58 in58 sz59 ag59 in59 sz60 ag60 ze60 in60 sz61 ag61 ze61 in61 sz62 ag62 ze62 in62 sz63 ag63 ze63 in63 sz64 ag64 ze64 in64 sz65 ag65 ze65 in65 sz66 ag66 ze66 in66 sz67 ag67 ze67 in67 sz68 ag68 ze68 in68 sz69 ag69 ze69 in69 sz70 ag70 ze70 in70 sz71 ag71 ze71 fi71x0 pl71x0 fi71x1 pl71x1 fi71x2 pl71x2 fi71x3 pl71x3 fi71x4 pl71x4 po71 in71 sz72 ag72 ze72 fi72x0 pl72x0 fi72x1 pl72x1 fi72x2 pl72x2 fi72x3 pl72x3 fi72x4 pl72x4 po72 in72 sz73 ag73 ze73 pl73x0 pl73x1 pl73x2 pl73x3 po73 in73 sz74 ag74 ze74 in74 sz75 ag75 ze75 in75 sz76 ag76 ze76 el76 in76 sz77 ag77 ze77 in77 sz78 ag78 ze78 in78 sz79 ag79 ze79 in79 sz80 ag80 ze80 in80 sz81 ag81 ze81 in81 sz82 ag82 ze82 fi82x0 pl82x0 fi82x1 pl82x1 fi82x2 pl82x2 fi82x3 pl82x3 po82 in82 sz83 ag83 ze83 fi83x0 pl83x0 fi83x1 pl83x1 fi83x2 pl83x2 fi83x3 pl83x3 po83 in83 sz84 ag84 ze84 po84 in84 sz85 ag85 ze85 fi85x0 pl85x0 po85 in85 sz86 ag86 ze86 fi86x0 pl86x0 po86 in86 sz87 ag87 ze87 in87 sz88 ag88 ze88 in88 sz89 ag89 ze89 in89 sz90 ag90 ze90 in90 sz91 ag91 ze91 in91 sz92 ag92 ze92 in92 sz93 ag93 ze93 in93 sz94 ag94 ze94 fi94x0 pl94x0 fi94x1 pl94x1 fi94x2 pl94x2 fi94x3 pl94x3 fi94x4 pl94x4 fi94x5 pl94x5 fi94x6 pl94x6 fi94x7 pl94x7 fi94x8 pl94x8 fi94x9 pl94x9 fi94x10 pl94x10 po94 in94 sz95 ag95 ze95 fi95x0 pl95x0 fi95x1 pl95x1 fi95x2 pl95x2 fi95x3 pl95x3 fi95x4 pl95x4 fi95x5 pl95x5 fi95x6 pl95x6 fi95x7 pl95x7 fi95x8 pl95x8 fi95x9 pl95x9 fi95x10 pl95x10 po95 in95 Try.underlying0 Try.underlying1 Try.underlying2 Try.underlying3 Try.underlying4 Try.underlying5 Try.underlying6 Try.underlying7 Try.underlying8 Try.underlying9 Try.underlying10 Try.underlying11 Try.underlying12 Try.underlying13 Try.underlying14 Try.underlying15 Try.underlying16 Try.underlying17 Try.underlying18 Try.underlying19 Try.underlying20 Try.underlying21 Try.underlying22 Try.underlying23 Try.underlying24 Try.underlying25 Try.underlying26 Try.underlying27 Try.underlying28 Try.underlying29 Try.underlying30 Try.underlying31 Try.underlying32 Try.underlying33 Try.underlying34 Try.underlying35 Try.underlying36 Try.underlying37 Try.underlying38 Try.underlying39 Try.underlying40 Try.underlying41 Try.underlying42 Try.underlying43 Try.underlying44 Try.underlying45 Try.underlying46 Try.underlying47 Try.underlying48 Try.underlying49 Try.underlying50 Try.underlying51 Try.underlying52 Try.underlying53 Try.underlying54 Try.underlying55 Try.underlying56 Try.underlying57 Try.underlying58 Try.underlying59 Try.underlying60 Try.underlying61 Try.underlying62 Try.underlying63 Try.underlying64 Try.underlying65 Try.underlying66 Try.underlying67 Try.underlying68 Try.underlying69 Try.underlying70 Try.underlying71 Try.underlying72 Try.underlying73 Try.underlying74 Try.underlying75 Try.underlying76 Try.underlying77 Try.underlying78 Try.underlying79 Try.underlying80 Try.underlying81 Try.underlying82 Try.underlying83 Try.underlying84 Try.underlying85 Try.underlying86 Try.underlying87 Try.underlying88 Try.underlying89 Try.underlying90 Try.underlying91 Try.underlying92 Try.underlying93 Try.underlying94 Try.underlying95 ch3x3 pp3x3 ch4x3 pp4x3 ch4x10 pp4x10 ch4x12 pp4x12 ch5x7 pp5x7 ch5x9 pp5x9 ch8x5 pp8x5 ch8x22 pp8x22 ch8x26 pp8x26 ch9x7 pp9x7 ch9x14 pp9x14 ch9x16 pp9x16 ch9x18 pp9x18 ch13x1 pp13x1 ch24x10 pp24x10 ch27x3 pp27x3 ch29x1 pp29x1 ch30x3 pp30x3 ch34x14 pp34x14 ch36x0 pp36x0 ch55x1 pp55x1 ch56x1 pp56x1 ch58x1 pp58x1 ch59x1 pp59x1

def markN : Nat → Int
  | 0 => 255
  | 1 => 254
  | _ => 253
def noteS (l : List UInt8) : Nat → Int
  | 0 => 0
  | i + 1 => if l = notedT (markN i) then markN i else noteS l i

def gNote (l : List UInt8) : Int :=
  match noteV l with
  | some n => n + 1
  | none => noteS l 3
def gInst (d e : UInt8) : Int := if d = 46 then 0 else 10 * (((d.toNat : Int) - 48) % 256) + (e.toNat : Int) - 48
def gVol (f g h : UInt8) : Int × Int := if f = 46 then (0, 0) else ((f.toNat : Int) - 97 + 1, 10 * ((g.toNat : Int) - 48) + (h.toNat : Int) - 48)
def gEff (i j k : UInt8) : Int × Int := if i = 46 then (0, 0) else (1 + plc (i.toNat : Int) effs 0, 16 * plc (j.toNat : Int) (effs.take 16) 0 + plc (k.toNat : Int) (effs.take 16) 0)

def gAll (l : List UInt8) (n b c d e f : Int) : Option (Int × Int × Int × Int × Int × Int) :=
  if validC n b c d e f = true ∧ cellT n b c d e f = l then some (n, b, c, d, e, f) else none

def parseR : List UInt8 → Option (Int × Int × Int × Int × Int × Int)
  | [a, b, c, s1, d, e, s2, f, g, h, s3, i, j, k] =>
    gAll [a, b, c, s1, d, e, s2, f, g, h, s3, i, j, k] (gNote [a, b, c]) (gInst d e) (gVol f g h).1 (gVol f g h).2 (gEff i j k).1 (gEff i j k).2
  | _ => none

def rL (S : St) (l text : List UInt8) (n : Nat) (e' : Env) (S' : St) : Prop :=
  ∃ i : Nat, n = 3 - i ∧ i ≤ 3 ∧ Fwd S S' ∧ S.next + 2 < S'.next ∧ S'.get S.next = some (.blk [i64 0, i64 0, i64 0, i64 0, i64 0, i64 0] 0 23) ∧ S'.get (S.next + 1) = some (.blk [i64 (noteS l i), i64 0, i64 0, i64 0, i64 0, i64 0] 0 23) ∧
    S'.get (S.next + 2) = some (.blk [i64 255, i64 254, i64 253] 0 3) ∧ e'.get 0 = .c (.str text) ∧ e'.get 2 = .ref S.next 0 ∧ e'.get 4 = .ref (S.next + 1) 0 ∧ e'.get 16 = .sl (S.next + 2) 0 3 1 true ∧ e'.get 17 = i64 3 ∧ e'.get 18 = i64 i

def rM (S : St) (n b c d e f : Int) (text : List UInt8) (e' : Env) (S' : St) : Prop :=
  Fwd S S' ∧ S.next + 2 < S'.next ∧ S'.get S.next = some (.blk [i64 0, i64 0, i64 0, i64 0, i64 0, i64 0] 0 23) ∧ S'.get (S.next + 1) = some (.blk [i64 n, i64 b, i64 c, i64 d, i64 e, i64 f] 0 23) ∧
    e'.get 0 = .c (.str text) ∧ e'.get 2 = .ref S.next 0 ∧ e'.get 4 = .ref (S.next + 1) 0

theorem plc_range (b : Int) (s : List UInt8) : -1 ≤ plc b s 0 ∧ plc b s 0 < s.length := by
  rcases plc_bound b s 0 with h | ⟨k, h1, h2⟩
  · omega
  · omega

theorem wc9 (l : List UInt8) (S : St) : WC Try.prog 9 [.c (.str l)] (Is (.tup (cellA (parseR l))) S) S := by
  refine wc_fn (fn := Try.f9) (N := 108) (rs := [.cell 2 23, .tmp 3]) (by rfl) (by kernel_rfl) (by rfl) (by rfl) (by rfl) (by rfl) fun hS => ?_
  by_cases h14 : l.length = 14
  · match l, h14 with
    | [a, b, c, s1, d, e, s2, f, g, h, s3, i, j, k], _ =>
    rw [parseR]
    generalize htx : [a, b, c, s1, d, e, s2, f, g, h, s3, i, j, k] = text
    have x3 : text.take 3 = [a, b, c] := by rw [← htx]; rfl
    have x4 : text[4]? = some d := by rw [← htx]; rfl
    have x5 : text[5]? = some e := by rw [← htx]; rfl
    have x7 : text[7]? = some f := by rw [← htx]; rfl
    have x8 : text[8]? = some g := by rw [← htx]; rfl
    have x9 : text[9]? = some h := by rw [← htx]; rfl
    have x11 : text[11]? = some i := by rw [← htx]; rfl
    have x12 : text[12]? = some j := by rw [← htx]; rfl
    have x13 : text[13]? = some k := by rw [← htx]; rfl
    have xl : text.length = 14 := by rw [← htx]; rfl
    simp only [bne_self_eq_false, xl, go_sem, maxLenA, put_put, put_new, ne_up1, ne_dn1, ne_up2, ne_dn2, ne_up3, ne_dn3, ne_up4, ne_dn4, ne_up5, ne_dn5, ne_up6, ne_dn6, bytesOf, aMapUpdate, findA, keyEq, keyFits, aLookup, aAssert, mkIface, mkClo, wrap_i64, wrap_i32, wrap_u8, Int.cast_ofNat_Int, Option.some.injEq, Nat.reduceAdd, Nat.reduceSub, Nat.reduceMul, Nat.reduceEqDiff, Nat.reduceLT, Nat.reduceLeDiff, Nat.reduceMod, Nat.reduceDiv, Int.reduceLT, Int.reduceLE, Int.reduceToNat, Int.reduceNeg, Int.reduceEq, Int.reduceBEq, Int.reduceBNe, Nat.reduceBEq, Int.reduceMul, Int.reduceAdd, Int.reduceSub, Int.reduceDiv, Int.reduceTDiv, Int.reduceTMod, Int.reduceMod]
    refine wloop_meas (rL S [a, b, c] text) ?_ 3 _ _ ?_
    · rintro n e' S' ⟨i', rfl, hi, hF, hN, z0, z1, z2, g0, g2, g4, g16, g17, g18⟩
      rcases Nat.lt_or_ge i' 3 with hlt | hge
      · have h1 : ((i' : Int) < 3) := by omega
        have h2 : ¬ ((i' : Int) < 0) := by omega
        have hc : ([i64 255, i64 254, i64 253] : List AV)[0 + i' * 1]? = some (i64 (markN i')) := by
          match i', hlt with
          | 0, _ => rfl
          | 1, _ => rfl
          | 2, _ => rfl
        have w5 : IntKind.i64.wrap ((i' : Int) + 1) = ((i' + 1 : Nat) : Int) := by
          rw [wrap_i64 _ (by omega) (by omega)]; rfl
        have hm0 : -9223372036854775808 < markN i' ∧ markN i' ≤ 9223372036854775807 := by
          match i', hlt with
          | 0, _ => decide
          | 1, _ => decide
          | 2, _ => decide
        simp only [g0, g16, g17, g18, h1, h2, hlt, z2, Int.toNat_natCast, hc, go_sem, maxLenA, put_put, put_new, ne_up1, ne_dn1, ne_up2, ne_dn2, ne_up3, ne_dn3, ne_up4, ne_dn4, ne_up5, ne_dn5, ne_up6, ne_dn6, bytesOf, aMapUpdate, findA, keyEq, keyFits, aLookup, aAssert, mkIface, mkClo, wrap_i64, wrap_i32, wrap_u8, Int.cast_ofNat_Int, Option.some.injEq, Nat.reduceAdd, Nat.reduceSub, Nat.reduceMul, Nat.reduceEqDiff, Nat.reduceLT, Nat.reduceLeDiff, Nat.reduceMod, Nat.reduceDiv, Int.reduceLT, Int.reduceLE, Int.reduceToNat, Int.reduceNeg, Int.reduceEq, Int.reduceBEq, Int.reduceBNe, Nat.reduceBEq, Int.reduceMul, Int.reduceAdd, Int.reduceSub, Int.reduceDiv, Int.reduceTDiv, Int.reduceTMod, Int.reduceMod]
        refine wdraw_plan ch9x7 pp9x7 (by kernel_rfl) (by kernel_rfl) (by kernel_rfl) ?_
        simp only [g0, xl, x3, go_sem, maxLenA, put_put, put_new, ne_up1, ne_dn1, ne_up2, ne_dn2, ne_up3, ne_dn3, ne_up4, ne_dn4, ne_up5, ne_dn5, ne_up6, ne_dn6, bytesOf, aMapUpdate, findA, keyEq, keyFits, aLookup, aAssert, mkIface, mkClo, wrap_i64, wrap_i32, wrap_u8, Int.cast_ofNat_Int, Option.some.injEq, Nat.reduceAdd, Nat.reduceSub, Nat.reduceMul, Nat.reduceEqDiff, Nat.reduceLT, Nat.reduceLeDiff, Nat.reduceMod, Nat.reduceDiv, Int.reduceLT, Int.reduceLE, Int.reduceToNat, Int.reduceNeg, Int.reduceEq, Int.reduceBEq, Int.reduceBNe, Nat.reduceBEq, Int.reduceMul, Int.reduceAdd, Int.reduceSub, Int.reduceDiv, Int.reduceTDiv, Int.reduceTMod, Int.reduceMod]
        refine ⟨_, wc16 _ _ hm0.1 hm0.2, ?_⟩
        by_cases he : [a, b, c] = notedT (markN i')
        · have he' : ([a, b, c] == notedT (markN i')) = true := by simpa using he
          simp only [he', g4, z1, g18, w5, go_sem, maxLenA, put_put, put_new, ne_up1, ne_dn1, ne_up2, ne_dn2, ne_up3, ne_dn3, ne_up4, ne_dn4, ne_up5, ne_dn5, ne_up6, ne_dn6, bytesOf, aMapUpdate, findA, keyEq, keyFits, aLookup, aAssert, mkIface, mkClo, wrap_i64, wrap_i32, wrap_u8, Int.cast_ofNat_Int, Option.some.injEq, Nat.reduceAdd, Nat.reduceSub, Nat.reduceMul, Nat.reduceEqDiff, Nat.reduceLT, Nat.reduceLeDiff, Nat.reduceMod, Nat.reduceDiv, Int.reduceLT, Int.reduceLE, Int.reduceToNat, Int.reduceNeg, Int.reduceEq, Int.reduceBEq, Int.reduceBNe, Nat.reduceBEq, Int.reduceMul, Int.reduceAdd, Int.reduceSub, Int.reduceDiv, Int.reduceTDiv, Int.reduceTMod, Int.reduceMod]
          refine ⟨3 - (i' + 1), by omega, i' + 1, rfl, by omega, hF.put (Nat.le_succ _) _, ?_⟩
          simp only [z0, z2, hN, g0, g2, g4, g16, g17, noteS, go_sem, maxLenA, put_put, put_new, ne_up1, ne_dn1, ne_up2, ne_dn2, ne_up3, ne_dn3, ne_up4, ne_dn4, ne_up5, ne_dn5, ne_up6, ne_dn6, bytesOf, aMapUpdate, findA, keyEq, keyFits, aLookup, aAssert, mkIface, mkClo, wrap_i64, wrap_i32, wrap_u8, Int.cast_ofNat_Int, Option.some.injEq, Nat.reduceAdd, Nat.reduceSub, Nat.reduceMul, Nat.reduceEqDiff, Nat.reduceLT, Nat.reduceLeDiff, Nat.reduceMod, Nat.reduceDiv, Int.reduceLT, Int.reduceLE, Int.reduceToNat, Int.reduceNeg, Int.reduceEq, Int.reduceBEq, Int.reduceBNe, Nat.reduceBEq, Int.reduceMul, Int.reduceAdd, Int.reduceSub, Int.reduceDiv, Int.reduceTDiv, Int.reduceTMod, Int.reduceMod]
          rw [if_pos he]
        · have he' : ([a, b, c] == notedT (markN i')) = false := by simpa using he
          simp only [he', g4, z1, g18, w5, go_sem, maxLenA, put_put, put_new, ne_up1, ne_dn1, ne_up2, ne_dn2, ne_up3, ne_dn3, ne_up4, ne_dn4, ne_up5, ne_dn5, ne_up6, ne_dn6, bytesOf, aMapUpdate, findA, keyEq, keyFits, aLookup, aAssert, mkIface, mkClo, wrap_i64, wrap_i32, wrap_u8, Int.cast_ofNat_Int, Option.some.injEq, Nat.reduceAdd, Nat.reduceSub, Nat.reduceMul, Nat.reduceEqDiff, Nat.reduceLT, Nat.reduceLeDiff, Nat.reduceMod, Nat.reduceDiv, Int.reduceLT, Int.reduceLE, Int.reduceToNat, Int.reduceNeg, Int.reduceEq, Int.reduceBEq, Int.reduceBNe, Nat.reduceBEq, Int.reduceMul, Int.reduceAdd, Int.reduceSub, Int.reduceDiv, Int.reduceTDiv, Int.reduceTMod, Int.reduceMod]
          refine ⟨3 - (i' + 1), by omega, i' + 1, rfl, by omega, hF, ?_⟩
          simp only [z0, z1, z2, hN, g0, g2, g4, g16, g17, noteS, go_sem, maxLenA, put_put, put_new, ne_up1, ne_dn1, ne_up2, ne_dn2, ne_up3, ne_dn3, ne_up4, ne_dn4, ne_up5, ne_dn5, ne_up6, ne_dn6, bytesOf, aMapUpdate, findA, keyEq, keyFits, aLookup, aAssert, mkIface, mkClo, wrap_i64, wrap_i32, wrap_u8, Int.cast_ofNat_Int, Option.some.injEq, Nat.reduceAdd, Nat.reduceSub, Nat.reduceMul, Nat.reduceEqDiff, Nat.reduceLT, Nat.reduceLeDiff, Nat.reduceMod, Nat.reduceDiv, Int.reduceLT, Int.reduceLE, Int.reduceToNat, Int.reduceNeg, Int.reduceEq, Int.reduceBEq, Int.reduceBNe, Nat.reduceBEq, Int.reduceMul, Int.reduceAdd, Int.reduceSub, Int.reduceDiv, Int.reduceTDiv, Int.reduceTMod, Int.reduceMod]
          rw [if_neg he]
      · have h1 : ¬ ((i' : Int) < 3) := by omega
        obtain rfl : i' = 3 := by omega
        simp only [g18, g17, g0, xl, x3, go_sem, maxLenA, put_put, put_new, ne_up1, ne_dn1, ne_up2, ne_dn2, ne_up3, ne_dn3, ne_up4, ne_dn4, ne_up5, ne_dn5, ne_up6, ne_dn6, bytesOf, aMapUpdate, findA, keyEq, keyFits, aLookup, aAssert, mkIface, mkClo, wrap_i64, wrap_i32, wrap_u8, Int.cast_ofNat_Int, Option.some.injEq, Nat.reduceAdd, Nat.reduceSub, Nat.reduceMul, Nat.reduceEqDiff, Nat.reduceLT, Nat.reduceLeDiff, Nat.reduceMod, Nat.reduceDiv, Int.reduceLT, Int.reduceLE, Int.reduceToNat, Int.reduceNeg, Int.reduceEq, Int.reduceBEq, Int.reduceBNe, Nat.reduceBEq, Int.reduceMul, Int.reduceAdd, Int.reduceSub, Int.reduceDiv, Int.reduceTDiv, Int.reduceTMod, Int.reduceMod]
        with_reducible refine wc_is (wc22 _ _) ?_
        simp only [scan_note, noteA_eq, go_sem, maxLenA, put_put, put_new, ne_up1, ne_dn1, ne_up2, ne_dn2, ne_up3, ne_dn3, ne_up4, ne_dn4, ne_up5, ne_dn5, ne_up6, ne_dn6, bytesOf, aMapUpdate, findA, keyEq, keyFits, aLookup, aAssert, mkIface, mkClo, wrap_i64, wrap_i32, wrap_u8, Int.cast_ofNat_Int, Option.some.injEq, Nat.reduceAdd, Nat.reduceSub, Nat.reduceMul, Nat.reduceEqDiff, Nat.reduceLT, Nat.reduceLeDiff, Nat.reduceMod, Nat.reduceDiv, Int.reduceLT, Int.reduceLE, Int.reduceToNat, Int.reduceNeg, Int.reduceEq, Int.reduceBEq, Int.reduceBNe, Nat.reduceBEq, Int.reduceMul, Int.reduceAdd, Int.reduceSub, Int.reduceDiv, Int.reduceTDiv, Int.reduceTMod, Int.reduceMod]
        refine condK_cut (rM S (gNote [a, b, c]) 0 0 0 0 0 text) ?_ ?_
        · cases hn : noteV [a, b, c] with
          | some n =>
            have hlt := (name_noteV hn).1
            have w1 : IntKind.i64.wrap ((n : Int) + 1) = (n : Int) + 1 := wrap_i64 _ (by omega) (by omega)
            have hg : gNote [a, b, c] = (n : Int) + 1 := by simp [gNote, hn]
            simp only [nE, nN, beq_self_eq_true, w1, g4, z1, go_sem, maxLenA, put_put, put_new, ne_up1, ne_dn1, ne_up2, ne_dn2, ne_up3, ne_dn3, ne_up4, ne_dn4, ne_up5, ne_dn5, ne_up6, ne_dn6, bytesOf, aMapUpdate, findA, keyEq, keyFits, aLookup, aAssert, mkIface, mkClo, wrap_i64, wrap_i32, wrap_u8, Int.cast_ofNat_Int, Option.some.injEq, Nat.reduceAdd, Nat.reduceSub, Nat.reduceMul, Nat.reduceEqDiff, Nat.reduceLT, Nat.reduceLeDiff, Nat.reduceMod, Nat.reduceDiv, Int.reduceLT, Int.reduceLE, Int.reduceToNat, Int.reduceNeg, Int.reduceEq, Int.reduceBEq, Int.reduceBNe, Nat.reduceBEq, Int.reduceMul, Int.reduceAdd, Int.reduceSub, Int.reduceDiv, Int.reduceTDiv, Int.reduceTMod, Int.reduceMod]
            refine ⟨hF.put (Nat.le_succ _) _, ?_⟩
            simp only [hN, z0, g0, g2, g4, hg, go_sem, maxLenA, put_put, put_new, ne_up1, ne_dn1, ne_up2, ne_dn2, ne_up3, ne_dn3, ne_up4, ne_dn4, ne_up5, ne_dn5, ne_up6, ne_dn6, bytesOf, aMapUpdate, findA, keyEq, keyFits, aLookup, aAssert, mkIface, mkClo, wrap_i64, wrap_i32, wrap_u8, Int.cast_ofNat_Int, Option.some.injEq, Nat.reduceAdd, Nat.reduceSub, Nat.reduceMul, Nat.reduceEqDiff, Nat.reduceLT, Nat.reduceLeDiff, Nat.reduceMod, Nat.reduceDiv, Int.reduceLT, Int.reduceLE, Int.reduceToNat, Int.reduceNeg, Int.reduceEq, Int.reduceBEq, Int.reduceBNe, Nat.reduceBEq, Int.reduceMul, Int.reduceAdd, Int.reduceSub, Int.reduceDiv, Int.reduceTDiv, Int.reduceTMod, Int.reduceMod]
          | none =>
            have hg : gNote [a, b, c] = noteS [a, b, c] 3 := by simp [gNote, hn]
            simp only [nE, nN, go_sem, maxLenA, put_put, put_new, ne_up1, ne_dn1, ne_up2, ne_dn2, ne_up3, ne_dn3, ne_up4, ne_dn4, ne_up5, ne_dn5, ne_up6, ne_dn6, bytesOf, aMapUpdate, findA, keyEq, keyFits, aLookup, aAssert, mkIface, mkClo, wrap_i64, wrap_i32, wrap_u8, Int.cast_ofNat_Int, Option.some.injEq, Nat.reduceAdd, Nat.reduceSub, Nat.reduceMul, Nat.reduceEqDiff, Nat.reduceLT, Nat.reduceLeDiff, Nat.reduceMod, Nat.reduceDiv, Int.reduceLT, Int.reduceLE, Int.reduceToNat, Int.reduceNeg, Int.reduceEq, Int.reduceBEq, Int.reduceBNe, Nat.reduceBEq, Int.reduceMul, Int.reduceAdd, Int.reduceSub, Int.reduceDiv, Int.reduceTDiv, Int.reduceTMod, Int.reduceMod]
            refine ⟨hF, ?_⟩
            simp only [hN, z0, z1, g0, g2, g4, hg, go_sem, maxLenA, put_put, put_new, ne_up1, ne_dn1, ne_up2, ne_dn2, ne_up3, ne_dn3, ne_up4, ne_dn4, ne_up5, ne_dn5, ne_up6, ne_dn6, bytesOf, aMapUpdate, findA, keyEq, keyFits, aLookup, aAssert, mkIface, mkClo, wrap_i64, wrap_i32, wrap_u8, Int.cast_ofNat_Int, Option.some.injEq, Nat.reduceAdd, Nat.reduceSub, Nat.reduceMul, Nat.reduceEqDiff, Nat.reduceLT, Nat.reduceLeDiff, Nat.reduceMod, Nat.reduceDiv, Int.reduceLT, Int.reduceLE, Int.reduceToNat, Int.reduceNeg, Int.reduceEq, Int.reduceBEq, Int.reduceBNe, Nat.reduceBEq, Int.reduceMul, Int.reduceAdd, Int.reduceSub, Int.reduceDiv, Int.reduceTDiv, Int.reduceTMod, Int.reduceMod]
        clear hF hN z0 z1 z2 g0 g2 g4 g16 g17 g18
        -- the instrument
        rintro e' T ⟨hF, hN, z0, z1, g0, g2, g4⟩
        simp only [g0, x4, go_sem, maxLenA, put_put, put_new, ne_up1, ne_dn1, ne_up2, ne_dn2, ne_up3, ne_dn3, ne_up4, ne_dn4, ne_up5, ne_dn5, ne_up6, ne_dn6, bytesOf, aMapUpdate, findA, keyEq, keyFits, aLookup, aAssert, mkIface, mkClo, wrap_i64, wrap_i32, wrap_u8, Int.cast_ofNat_Int, Option.some.injEq, Nat.reduceAdd, Nat.reduceSub, Nat.reduceMul, Nat.reduceEqDiff, Nat.reduceLT, Nat.reduceLeDiff, Nat.reduceMod, Nat.reduceDiv, Int.reduceLT, Int.reduceLE, Int.reduceToNat, Int.reduceNeg, Int.reduceEq, Int.reduceBEq, Int.reduceBNe, Nat.reduceBEq, Int.reduceMul, Int.reduceAdd, Int.reduceSub, Int.reduceDiv, Int.reduceTDiv, Int.reduceTMod, Int.reduceMod]
        refine condK_cut (rM S (gNote [a, b, c]) (gInst d e) 0 0 0 0 text) ?_ ?_
        · have k1 := u8_ne d 46
          have hd1 : (d.toNat : Int) < 256 := by have := d.toNat_lt; omega
          have he1 : (e.toNat : Int) < 256 := by have := e.toNat_lt; omega
          by_cases hd : d = 46
          · subst hd
            have hg : gInst 46 e = 0 := rfl
            simp only [bne_self_eq_false, UInt8.toNat_ofNat, Nat.reduceMod, Nat.reducePow, go_sem, maxLenA, put_put, put_new, ne_up1, ne_dn1, ne_up2, ne_dn2, ne_up3, ne_dn3, ne_up4, ne_dn4, ne_up5, ne_dn5, ne_up6, ne_dn6, bytesOf, aMapUpdate, findA, keyEq, keyFits, aLookup, aAssert, mkIface, mkClo, wrap_i64, wrap_i32, wrap_u8, Int.cast_ofNat_Int, Option.some.injEq, Nat.reduceAdd, Nat.reduceSub, Nat.reduceMul, Nat.reduceEqDiff, Nat.reduceLT, Nat.reduceLeDiff, Nat.reduceMod, Nat.reduceDiv, Int.reduceLT, Int.reduceLE, Int.reduceToNat, Int.reduceNeg, Int.reduceEq, Int.reduceBEq, Int.reduceBNe, Nat.reduceBEq, Int.reduceMul, Int.reduceAdd, Int.reduceSub, Int.reduceDiv, Int.reduceTDiv, Int.reduceTMod, Int.reduceMod]
            exact ⟨hF, hN, z0, by rw [hg]; exact z1, g0, g2, g4⟩
          · have k2 : ((d.toNat : Int) != 46) = true := by rw [decide_eq_false hd] at k1; exact k1
            have hg : gInst d e = 10 * (((d.toNat : Int) - 48) % 256) + (e.toNat : Int) - 48 := by rw [gInst, if_neg hd]
            simp only [k2, go_sem, maxLenA, put_put, put_new, ne_up1, ne_dn1, ne_up2, ne_dn2, ne_up3, ne_dn3, ne_up4, ne_dn4, ne_up5, ne_dn5, ne_up6, ne_dn6, bytesOf, aMapUpdate, findA, keyEq, keyFits, aLookup, aAssert, mkIface, mkClo, wrap_i64, wrap_i32, wrap_u8, Int.cast_ofNat_Int, Option.some.injEq, Nat.reduceAdd, Nat.reduceSub, Nat.reduceMul, Nat.reduceEqDiff, Nat.reduceLT, Nat.reduceLeDiff, Nat.reduceMod, Nat.reduceDiv, Int.reduceLT, Int.reduceLE, Int.reduceToNat, Int.reduceNeg, Int.reduceEq, Int.reduceBEq, Int.reduceBNe, Nat.reduceBEq, Int.reduceMul, Int.reduceAdd, Int.reduceSub, Int.reduceDiv, Int.reduceTDiv, Int.reduceTMod, Int.reduceMod]
            refine wdraw_plan ch9x14 pp9x14 (by kernel_rfl) (by kernel_rfl) (by kernel_rfl) ?_
            have w1 : IntKind.u8.wrap ((d.toNat : Int) - 48) = ((d.toNat : Int) - 48) % 256 := wrap_u8_mod _
            have w2 : IntKind.i64.wrap (((d.toNat : Int) - 48) % 256) = ((d.toNat : Int) - 48) % 256 := wrap_i64 _ (by omega) (by omega)
            have w3 : IntKind.i64.wrap (10 * (((d.toNat : Int) - 48) % 256)) = 10 * (((d.toNat : Int) - 48) % 256) := wrap_i64 _ (by omega) (by omega)
            have w4 : IntKind.i64.wrap (e.toNat : Int) = e.toNat := wrap_i64 _ (by omega) (by omega)
            have w5 : IntKind.i64.wrap (10 * (((d.toNat : Int) - 48) % 256) + e.toNat) = 10 * (((d.toNat : Int) - 48) % 256) + e.toNat := wrap_i64 _ (by omega) (by omega)
            have w6 : IntKind.i64.wrap (10 * (((d.toNat : Int) - 48) % 256) + e.toNat - 48) = 10 * (((d.toNat : Int) - 48) % 256) + e.toNat - 48 := wrap_i64 _ (by omega) (by omega)
            simp only [g0, g4, x4, x5, w1, w2, w3, w4, w5, w6, z1, go_sem, maxLenA, put_put, put_new, ne_up1, ne_dn1, ne_up2, ne_dn2, ne_up3, ne_dn3, ne_up4, ne_dn4, ne_up5, ne_dn5, ne_up6, ne_dn6, bytesOf, aMapUpdate, findA, keyEq, keyFits, aLookup, aAssert, mkIface, mkClo, wrap_i64, wrap_i32, wrap_u8, Int.cast_ofNat_Int, Option.some.injEq, Nat.reduceAdd, Nat.reduceSub, Nat.reduceMul, Nat.reduceEqDiff, Nat.reduceLT, Nat.reduceLeDiff, Nat.reduceMod, Nat.reduceDiv, Int.reduceLT, Int.reduceLE, Int.reduceToNat, Int.reduceNeg, Int.reduceEq, Int.reduceBEq, Int.reduceBNe, Nat.reduceBEq, Int.reduceMul, Int.reduceAdd, Int.reduceSub, Int.reduceDiv, Int.reduceTDiv, Int.reduceTMod, Int.reduceMod]
            refine ⟨hF.put (Nat.le_succ _) _, ?_⟩
            simp only [hN, z0, z1, g0, g2, g4, hg, go_sem, maxLenA, put_put, put_new, ne_up1, ne_dn1, ne_up2, ne_dn2, ne_up3, ne_dn3, ne_up4, ne_dn4, ne_up5, ne_dn5, ne_up6, ne_dn6, bytesOf, aMapUpdate, findA, keyEq, keyFits, aLookup, aAssert, mkIface, mkClo, wrap_i64, wrap_i32, wrap_u8, Int.cast_ofNat_Int, Option.some.injEq, Nat.reduceAdd, Nat.reduceSub, Nat.reduceMul, Nat.reduceEqDiff, Nat.reduceLT, Nat.reduceLeDiff, Nat.reduceMod, Nat.reduceDiv, Int.reduceLT, Int.reduceLE, Int.reduceToNat, Int.reduceNeg, Int.reduceEq, Int.reduceBEq, Int.reduceBNe, Nat.reduceBEq, Int.reduceMul, Int.reduceAdd, Int.reduceSub, Int.reduceDiv, Int.reduceTDiv, Int.reduceTMod, Int.reduceMod]
        clear hF hN z0 z1 g0 g2 g4
        -- the volume column
        rintro e' T ⟨hF, hN, z0, z1, g0, g2, g4⟩
        simp only [g0, x7, go_sem, maxLenA, put_put, put_new, ne_up1, ne_dn1, ne_up2, ne_dn2, ne_up3, ne_dn3, ne_up4, ne_dn4, ne_up5, ne_dn5, ne_up6, ne_dn6, bytesOf, aMapUpdate, findA, keyEq, keyFits, aLookup, aAssert, mkIface, mkClo, wrap_i64, wrap_i32, wrap_u8, Int.cast_ofNat_Int, Option.some.injEq, Nat.reduceAdd, Nat.reduceSub, Nat.reduceMul, Nat.reduceEqDiff, Nat.reduceLT, Nat.reduceLeDiff, Nat.reduceMod, Nat.reduceDiv, Int.reduceLT, Int.reduceLE, Int.reduceToNat, Int.reduceNeg, Int.reduceEq, Int.reduceBEq, Int.reduceBNe, Nat.reduceBEq, Int.reduceMul, Int.reduceAdd, Int.reduceSub, Int.reduceDiv, Int.reduceTDiv, Int.reduceTMod, Int.reduceMod]
        refine condK_cut (rM S (gNote [a, b, c]) (gInst d e) (gVol f g h).1 (gVol f g h).2 0 0 text) ?_ ?_
        · have k1 := u8_ne f 46
          have hf1 : (f.toNat : Int) < 256 := by have := f.toNat_lt; omega
          have hg1 : (g.toNat : Int) < 256 := by have := g.toNat_lt; omega
          have hh1 : (h.toNat : Int) < 256 := by have := h.toNat_lt; omega
          by_cases hd : f = 46
          · subst hd
            simp only [bne_self_eq_false, UInt8.toNat_ofNat, Nat.reduceMod, Nat.reducePow, go_sem, maxLenA, put_put, put_new, ne_up1, ne_dn1, ne_up2, ne_dn2, ne_up3, ne_dn3, ne_up4, ne_dn4, ne_up5, ne_dn5, ne_up6, ne_dn6, bytesOf, aMapUpdate, findA, keyEq, keyFits, aLookup, aAssert, mkIface, mkClo, wrap_i64, wrap_i32, wrap_u8, Int.cast_ofNat_Int, Option.some.injEq, Nat.reduceAdd, Nat.reduceSub, Nat.reduceMul, Nat.reduceEqDiff, Nat.reduceLT, Nat.reduceLeDiff, Nat.reduceMod, Nat.reduceDiv, Int.reduceLT, Int.reduceLE, Int.reduceToNat, Int.reduceNeg, Int.reduceEq, Int.reduceBEq, Int.reduceBNe, Nat.reduceBEq, Int.reduceMul, Int.reduceAdd, Int.reduceSub, Int.reduceDiv, Int.reduceTDiv, Int.reduceTMod, Int.reduceMod]
            exact ⟨hF, hN, z0, z1, g0, g2, g4⟩
          · have k2 : ((f.toNat : Int) != 46) = true := by rw [decide_eq_false hd] at k1; exact k1
            have hg : gVol f g h = ((f.toNat : Int) - 97 + 1, 10 * ((g.toNat : Int) - 48) + (h.toNat : Int) - 48) := by rw [gVol, if_neg hd]
            simp only [k2, go_sem, maxLenA, put_put, put_new, ne_up1, ne_dn1, ne_up2, ne_dn2, ne_up3, ne_dn3, ne_up4, ne_dn4, ne_up5, ne_dn5, ne_up6, ne_dn6, bytesOf, aMapUpdate, findA, keyEq, keyFits, aLookup, aAssert, mkIface, mkClo, wrap_i64, wrap_i32, wrap_u8, Int.cast_ofNat_Int, Option.some.injEq, Nat.reduceAdd, Nat.reduceSub, Nat.reduceMul, Nat.reduceEqDiff, Nat.reduceLT, Nat.reduceLeDiff, Nat.reduceMod, Nat.reduceDiv, Int.reduceLT, Int.reduceLE, Int.reduceToNat, Int.reduceNeg, Int.reduceEq, Int.reduceBEq, Int.reduceBNe, Nat.reduceBEq, Int.reduceMul, Int.reduceAdd, Int.reduceSub, Int.reduceDiv, Int.reduceTDiv, Int.reduceTMod, Int.reduceMod]
            refine wdraw_plan ch9x16 pp9x16 (by kernel_rfl) (by kernel_rfl) (by kernel_rfl) ?_
            have w1 : IntKind.i64.wrap (f.toNat : Int) = f.toNat := wrap_i64 _ (by omega) (by omega)
            have w2 : IntKind.i64.wrap ((f.toNat : Int) - 97) = (f.toNat : Int) - 97 := wrap_i64 _ (by omega) (by omega)
            have w3 : IntKind.i64.wrap ((f.toNat : Int) - 97 + 1) = (f.toNat : Int) - 97 + 1 := wrap_i64 _ (by omega) (by omega)
            have w4 : IntKind.i64.wrap (g.toNat : Int) = g.toNat := wrap_i64 _ (by omega) (by omega)
            have w5 : IntKind.i64.wrap ((g.toNat : Int) - 48) = (g.toNat : Int) - 48 := wrap_i64 _ (by omega) (by omega)
            have w6 : IntKind.i64.wrap (10 * ((g.toNat : Int) - 48)) = 10 * ((g.toNat : Int) - 48) := wrap_i64 _ (by omega) (by omega)
            have w7 : IntKind.i64.wrap (h.toNat : Int) = h.toNat := wrap_i64 _ (by omega) (by omega)
            have w8 : IntKind.i64.wrap (10 * ((g.toNat : Int) - 48) + h.toNat) = 10 * ((g.toNat : Int) - 48) + h.toNat := wrap_i64 _ (by omega) (by omega)
            have w9 : IntKind.i64.wrap (10 * ((g.toNat : Int) - 48) + h.toNat - 48) = 10 * ((g.toNat : Int) - 48) + h.toNat - 48 := wrap_i64 _ (by omega) (by omega)
            simp only [g0, g4, x7, x8, x9, w1, w2, w3, w4, w5, w6, w7, w8, w9, z1, go_sem, maxLenA, put_put, put_new, ne_up1, ne_dn1, ne_up2, ne_dn2, ne_up3, ne_dn3, ne_up4, ne_dn4, ne_up5, ne_dn5, ne_up6, ne_dn6, bytesOf, aMapUpdate, findA, keyEq, keyFits, aLookup, aAssert, mkIface, mkClo, wrap_i64, wrap_i32, wrap_u8, Int.cast_ofNat_Int, Option.some.injEq, Nat.reduceAdd, Nat.reduceSub, Nat.reduceMul, Nat.reduceEqDiff, Nat.reduceLT, Nat.reduceLeDiff, Nat.reduceMod, Nat.reduceDiv, Int.reduceLT, Int.reduceLE, Int.reduceToNat, Int.reduceNeg, Int.reduceEq, Int.reduceBEq, Int.reduceBNe, Nat.reduceBEq, Int.reduceMul, Int.reduceAdd, Int.reduceSub, Int.reduceDiv, Int.reduceTDiv, Int.reduceTMod, Int.reduceMod]
            refine ⟨hF.put (Nat.le_succ _) _, ?_⟩
            simp only [hN, z0, z1, g0, g2, g4, hg, go_sem, maxLenA, put_put, put_new, ne_up1, ne_dn1, ne_up2, ne_dn2, ne_up3, ne_dn3, ne_up4, ne_dn4, ne_up5, ne_dn5, ne_up6, ne_dn6, bytesOf, aMapUpdate, findA, keyEq, keyFits, aLookup, aAssert, mkIface, mkClo, wrap_i64, wrap_i32, wrap_u8, Int.cast_ofNat_Int, Option.some.injEq, Nat.reduceAdd, Nat.reduceSub, Nat.reduceMul, Nat.reduceEqDiff, Nat.reduceLT, Nat.reduceLeDiff, Nat.reduceMod, Nat.reduceDiv, Int.reduceLT, Int.reduceLE, Int.reduceToNat, Int.reduceNeg, Int.reduceEq, Int.reduceBEq, Int.reduceBNe, Nat.reduceBEq, Int.reduceMul, Int.reduceAdd, Int.reduceSub, Int.reduceDiv, Int.reduceTDiv, Int.reduceTMod, Int.reduceMod]
        clear hF hN z0 z1 g0 g2 g4
        -- the effect
        rintro e' T ⟨hF, hN, z0, z1, g0, g2, g4⟩
        simp only [g0, x11, go_sem, maxLenA, put_put, put_new, ne_up1, ne_dn1, ne_up2, ne_dn2, ne_up3, ne_dn3, ne_up4, ne_dn4, ne_up5, ne_dn5, ne_up6, ne_dn6, bytesOf, aMapUpdate, findA, keyEq, keyFits, aLookup, aAssert, mkIface, mkClo, wrap_i64, wrap_i32, wrap_u8, Int.cast_ofNat_Int, Option.some.injEq, Nat.reduceAdd, Nat.reduceSub, Nat.reduceMul, Nat.reduceEqDiff, Nat.reduceLT, Nat.reduceLeDiff, Nat.reduceMod, Nat.reduceDiv, Int.reduceLT, Int.reduceLE, Int.reduceToNat, Int.reduceNeg, Int.reduceEq, Int.reduceBEq, Int.reduceBNe, Nat.reduceBEq, Int.reduceMul, Int.reduceAdd, Int.reduceSub, Int.reduceDiv, Int.reduceTDiv, Int.reduceTMod, Int.reduceMod]
        refine condK_cut (rM S (gNote [a, b, c]) (gInst d e) (gVol f g h).1 (gVol f g h).2 (gEff i j k).1 (gEff i j k).2 text) ?_ ?_
        · have k1 := u8_ne i 46
          by_cases hd : i = 46
          · subst hd
            simp only [bne_self_eq_false, UInt8.toNat_ofNat, Nat.reduceMod, Nat.reducePow, go_sem, maxLenA, put_put, put_new, ne_up1, ne_dn1, ne_up2, ne_dn2, ne_up3, ne_dn3, ne_up4, ne_dn4, ne_up5, ne_dn5, ne_up6, ne_dn6, bytesOf, aMapUpdate, findA, keyEq, keyFits, aLookup, aAssert, mkIface, mkClo, wrap_i64, wrap_i32, wrap_u8, Int.cast_ofNat_Int, Option.some.injEq, Nat.reduceAdd, Nat.reduceSub, Nat.reduceMul, Nat.reduceEqDiff, Nat.reduceLT, Nat.reduceLeDiff, Nat.reduceMod, Nat.reduceDiv, Int.reduceLT, Int.reduceLE, Int.reduceToNat, Int.reduceNeg, Int.reduceEq, Int.reduceBEq, Int.reduceBNe, Nat.reduceBEq, Int.reduceMul, Int.reduceAdd, Int.reduceSub, Int.reduceDiv, Int.reduceTDiv, Int.reduceTMod, Int.reduceMod]
            exact ⟨hF, hN, z0, z1, g0, g2, g4⟩
          · have k2 : ((i.toNat : Int) != 46) = true := by rw [decide_eq_false hd] at k1; exact k1
            have hg : gEff i j k = (1 + plc (i.toNat : Int) effs 0, 16 * plc (j.toNat : Int) (effs.take 16) 0 + plc (k.toNat : Int) (effs.take 16) 0) := by rw [gEff, if_neg hd]
            have b0 : -1 ≤ plc (i.toNat : Int) effs 0 ∧ plc (i.toNat : Int) effs 0 < 36 := plc_range (i.toNat : Int) effs
            have b1 : -1 ≤ plc (j.toNat : Int) (effs.take 16) 0 ∧ plc (j.toNat : Int) (effs.take 16) 0 < 16 := plc_range _ (effs.take 16)
            have b2 : -1 ≤ plc (k.toNat : Int) (effs.take 16) 0 ∧ plc (k.toNat : Int) (effs.take 16) 0 < 16 := plc_range _ (effs.take 16)
            simp only [k2, go_sem, maxLenA, put_put, put_new, ne_up1, ne_dn1, ne_up2, ne_dn2, ne_up3, ne_dn3, ne_up4, ne_dn4, ne_up5, ne_dn5, ne_up6, ne_dn6, bytesOf, aMapUpdate, findA, keyEq, keyFits, aLookup, aAssert, mkIface, mkClo, wrap_i64, wrap_i32, wrap_u8, Int.cast_ofNat_Int, Option.some.injEq, Nat.reduceAdd, Nat.reduceSub, Nat.reduceMul, Nat.reduceEqDiff, Nat.reduceLT, Nat.reduceLeDiff, Nat.reduceMod, Nat.reduceDiv, Int.reduceLT, Int.reduceLE, Int.reduceToNat, Int.reduceNeg, Int.reduceEq, Int.reduceBEq, Int.reduceBNe, Nat.reduceBEq, Int.reduceMul, Int.reduceAdd, Int.reduceSub, Int.reduceDiv, Int.reduceTDiv, Int.reduceTMod, Int.reduceMod]
            refine wdraw_plan ch9x18 pp9x18 (by kernel_rfl) (by kernel_rfl) (by kernel_rfl) ?_
            have w1 : IntKind.i64.wrap (1 + plc (i.toNat : Int) effs 0) = 1 + plc (i.toNat : Int) effs 0 := wrap_i64 _ (by omega) (by omega)
            have w2 : IntKind.i64.wrap (16 * plc (j.toNat : Int) (effs.take 16) 0) = 16 * plc (j.toNat : Int) (effs.take 16) 0 := wrap_i64 _ (by omega) (by omega)
            have w3 : IntKind.i64.wrap (16 * plc (j.toNat : Int) (effs.take 16) 0 + plc (k.toNat : Int) (effs.take 16) 0) = 16 * plc (j.toNat : Int) (effs.take 16) 0 + plc (k.toNat : Int) (effs.take 16) 0 := wrap_i64 _ (by omega) (by omega)
            simp only [g0, g4, x11, go_sem, maxLenA, put_put, put_new, ne_up1, ne_dn1, ne_up2, ne_dn2, ne_up3, ne_dn3, ne_up4, ne_dn4, ne_up5, ne_dn5, ne_up6, ne_dn6, bytesOf, aMapUpdate, findA, keyEq, keyFits, aLookup, aAssert, mkIface, mkClo, wrap_i64, wrap_i32, wrap_u8, Int.cast_ofNat_Int, Option.some.injEq, Nat.reduceAdd, Nat.reduceSub, Nat.reduceMul, Nat.reduceEqDiff, Nat.reduceLT, Nat.reduceLeDiff, Nat.reduceMod, Nat.reduceDiv, Int.reduceLT, Int.reduceLE, Int.reduceToNat, Int.reduceNeg, Int.reduceEq, Int.reduceBEq, Int.reduceBNe, Nat.reduceBEq, Int.reduceMul, Int.reduceAdd, Int.reduceSub, Int.reduceDiv, Int.reduceTDiv, Int.reduceTMod, Int.reduceMod]
            refine ⟨_, wc23 effs (by simp [effs_len, maxLenA]) _ _, ?_⟩
            simp only [g0, g4, x11, x12, w1, z1, go_sem, maxLenA, put_put, put_new, ne_up1, ne_dn1, ne_up2, ne_dn2, ne_up3, ne_dn3, ne_up4, ne_dn4, ne_up5, ne_dn5, ne_up6, ne_dn6, bytesOf, aMapUpdate, findA, keyEq, keyFits, aLookup, aAssert, mkIface, mkClo, wrap_i64, wrap_i32, wrap_u8, Int.cast_ofNat_Int, Option.some.injEq, Nat.reduceAdd, Nat.reduceSub, Nat.reduceMul, Nat.reduceEqDiff, Nat.reduceLT, Nat.reduceLeDiff, Nat.reduceMod, Nat.reduceDiv, Int.reduceLT, Int.reduceLE, Int.reduceToNat, Int.reduceNeg, Int.reduceEq, Int.reduceBEq, Int.reduceBNe, Nat.reduceBEq, Int.reduceMul, Int.reduceAdd, Int.reduceSub, Int.reduceDiv, Int.reduceTDiv, Int.reduceTMod, Int.reduceMod]
            refine ⟨_, wc23 (effs.take 16) (by simp [effs_len, maxLenA]) _ _, ?_⟩
            simp only [g0, g4, x13, w1, w2, z1, go_sem, maxLenA, put_put, put_new, ne_up1, ne_dn1, ne_up2, ne_dn2, ne_up3, ne_dn3, ne_up4, ne_dn4, ne_up5, ne_dn5, ne_up6, ne_dn6, bytesOf, aMapUpdate, findA, keyEq, keyFits, aLookup, aAssert, mkIface, mkClo, wrap_i64, wrap_i32, wrap_u8, Int.cast_ofNat_Int, Option.some.injEq, Nat.reduceAdd, Nat.reduceSub, Nat.reduceMul, Nat.reduceEqDiff, Nat.reduceLT, Nat.reduceLeDiff, Nat.reduceMod, Nat.reduceDiv, Int.reduceLT, Int.reduceLE, Int.reduceToNat, Int.reduceNeg, Int.reduceEq, Int.reduceBEq, Int.reduceBNe, Nat.reduceBEq, Int.reduceMul, Int.reduceAdd, Int.reduceSub, Int.reduceDiv, Int.reduceTDiv, Int.reduceTMod, Int.reduceMod]
            refine ⟨_, wc23 (effs.take 16) (by simp [effs_len, maxLenA]) _ _, ?_⟩
            simp only [g0, g4, x13, w1, w2, w3, z1, hN, z0, go_sem, maxLenA, put_put, put_new, ne_up1, ne_dn1, ne_up2, ne_dn2, ne_up3, ne_dn3, ne_up4, ne_dn4, ne_up5, ne_dn5, ne_up6, ne_dn6, bytesOf, aMapUpdate, findA, keyEq, keyFits, aLookup, aAssert, mkIface, mkClo, wrap_i64, wrap_i32, wrap_u8, Int.cast_ofNat_Int, Option.some.injEq, Nat.reduceAdd, Nat.reduceSub, Nat.reduceMul, Nat.reduceEqDiff, Nat.reduceLT, Nat.reduceLeDiff, Nat.reduceMod, Nat.reduceDiv, Int.reduceLT, Int.reduceLE, Int.reduceToNat, Int.reduceNeg, Int.reduceEq, Int.reduceBEq, Int.reduceBNe, Nat.reduceBEq, Int.reduceMul, Int.reduceAdd, Int.reduceSub, Int.reduceDiv, Int.reduceTDiv, Int.reduceTMod, Int.reduceMod]
            refine ⟨wc23 (effs.take 16) (by simp [effs_len, maxLenA]) _ _, hF.put (Nat.le_succ _) _, ?_⟩
            simp only [hN, z0, z1, g0, g2, g4, hg, go_sem, maxLenA, put_put, put_new, ne_up1, ne_dn1, ne_up2, ne_dn2, ne_up3, ne_dn3, ne_up4, ne_dn4, ne_up5, ne_dn5, ne_up6, ne_dn6, bytesOf, aMapUpdate, findA, keyEq, keyFits, aLookup, aAssert, mkIface, mkClo, wrap_i64, wrap_i32, wrap_u8, Int.cast_ofNat_Int, Option.some.injEq, Nat.reduceAdd, Nat.reduceSub, Nat.reduceMul, Nat.reduceEqDiff, Nat.reduceLT, Nat.reduceLeDiff, Nat.reduceMod, Nat.reduceDiv, Int.reduceLT, Int.reduceLE, Int.reduceToNat, Int.reduceNeg, Int.reduceEq, Int.reduceBEq, Int.reduceBNe, Nat.reduceBEq, Int.reduceMul, Int.reduceAdd, Int.reduceSub, Int.reduceDiv, Int.reduceTDiv, Int.reduceTMod, Int.reduceMod]
        clear hF hN z0 z1 g0 g2 g4
        rintro e' T ⟨hF, hN, z0, z1, g0, g2, g4⟩
        simp only [g4, z1, go_sem, maxLenA, put_put, put_new, ne_up1, ne_dn1, ne_up2, ne_dn2, ne_up3, ne_dn3, ne_up4, ne_dn4, ne_up5, ne_dn5, ne_up6, ne_dn6, bytesOf, aMapUpdate, findA, keyEq, keyFits, aLookup, aAssert, mkIface, mkClo, wrap_i64, wrap_i32, wrap_u8, Int.cast_ofNat_Int, Option.some.injEq, Nat.reduceAdd, Nat.reduceSub, Nat.reduceMul, Nat.reduceEqDiff, Nat.reduceLT, Nat.reduceLeDiff, Nat.reduceMod, Nat.reduceDiv, Int.reduceLT, Int.reduceLE, Int.reduceToNat, Int.reduceNeg, Int.reduceEq, Int.reduceBEq, Int.reduceBNe, Nat.reduceBEq, Int.reduceMul, Int.reduceAdd, Int.reduceSub, Int.reduceDiv, Int.reduceTDiv, Int.reduceTMod, Int.reduceMod]
        with_reducible refine wc_is (wc5 _ _ _ _ _ _ _) ?_
        generalize gNote [a, b, c] = n at *
        generalize gInst d e = b' at *
        generalize (gVol f g h).1 = c' at *
        generalize (gVol f g h).2 = d' at *
        generalize (gEff i j k).1 = e'' at *
        generalize (gEff i j k).2 = f' at *
        cases hv : validC n b' c' d' e'' f' with
        | false =>
          simp only [bne_self_eq_false, g2, z0, go_sem, maxLenA, put_put, put_new, ne_up1, ne_dn1, ne_up2, ne_dn2, ne_up3, ne_dn3, ne_up4, ne_dn4, ne_up5, ne_dn5, ne_up6, ne_dn6, bytesOf, aMapUpdate, findA, keyEq, keyFits, aLookup, aAssert, mkIface, mkClo, wrap_i64, wrap_i32, wrap_u8, Int.cast_ofNat_Int, Option.some.injEq, Nat.reduceAdd, Nat.reduceSub, Nat.reduceMul, Nat.reduceEqDiff, Nat.reduceLT, Nat.reduceLeDiff, Nat.reduceMod, Nat.reduceDiv, Int.reduceLT, Int.reduceLE, Int.reduceToNat, Int.reduceNeg, Int.reduceEq, Int.reduceBEq, Int.reduceBNe, Nat.reduceBEq, Int.reduceMul, Int.reduceAdd, Int.reduceSub, Int.reduceDiv, Int.reduceTDiv, Int.reduceTMod, Int.reduceMod]
          refine ends_fwd (hF.put (Nat.le_refl _) _) rfl ⟨?_, rfl⟩
          simp [gAll, hv, cellA]
        | true =>
          by_cases he : cellT n b' c' d' e'' f' = text
          · have he' : (cellT n b' c' d' e'' f' != text) = false := by simpa using he
            simp only [bne_self_eq_false, g0, he', g4, g2, z0, z1, go_sem, maxLenA, put_put, put_new, ne_up1, ne_dn1, ne_up2, ne_dn2, ne_up3, ne_dn3, ne_up4, ne_dn4, ne_up5, ne_dn5, ne_up6, ne_dn6, bytesOf, aMapUpdate, findA, keyEq, keyFits, aLookup, aAssert, mkIface, mkClo, wrap_i64, wrap_i32, wrap_u8, Int.cast_ofNat_Int, Option.some.injEq, Nat.reduceAdd, Nat.reduceSub, Nat.reduceMul, Nat.reduceEqDiff, Nat.reduceLT, Nat.reduceLeDiff, Nat.reduceMod, Nat.reduceDiv, Int.reduceLT, Int.reduceLE, Int.reduceToNat, Int.reduceNeg, Int.reduceEq, Int.reduceBEq, Int.reduceBNe, Nat.reduceBEq, Int.reduceMul, Int.reduceAdd, Int.reduceSub, Int.reduceDiv, Int.reduceTDiv, Int.reduceTMod, Int.reduceMod]
            refine ends_fwd (hF.put (Nat.le_refl _) _) rfl ⟨?_, rfl⟩
            simp [gAll, hv, cellA, he]
          · have he' : (cellT n b' c' d' e'' f' != text) = true := by simpa using he
            simp only [bne_self_eq_false, g0, he', g2, z0, go_sem, maxLenA, put_put, put_new, ne_up1, ne_dn1, ne_up2, ne_dn2, ne_up3, ne_dn3, ne_up4, ne_dn4, ne_up5, ne_dn5, ne_up6, ne_dn6, bytesOf, aMapUpdate, findA, keyEq, keyFits, aLookup, aAssert, mkIface, mkClo, wrap_i64, wrap_i32, wrap_u8, Int.cast_ofNat_Int, Option.some.injEq, Nat.reduceAdd, Nat.reduceSub, Nat.reduceMul, Nat.reduceEqDiff, Nat.reduceLT, Nat.reduceLeDiff, Nat.reduceMod, Nat.reduceDiv, Int.reduceLT, Int.reduceLE, Int.reduceToNat, Int.reduceNeg, Int.reduceEq, Int.reduceBEq, Int.reduceBNe, Nat.reduceBEq, Int.reduceMul, Int.reduceAdd, Int.reduceSub, Int.reduceDiv, Int.reduceTDiv, Int.reduceTMod, Int.reduceMod]
            refine ends_fwd (hF.put (Nat.le_refl _) _) rfl ⟨?_, rfl⟩
            simp [gAll, hv, cellA, he]
    · refine ⟨0, rfl, by omega, (((Fwd.refl hS).new _).new _).put (Nat.le_succ _) _ |>.new _, ?_⟩
      simp only [Nat.add_assoc, Nat.lt_succ_self, noteS, go_sem, maxLenA, put_put, put_new, ne_up1, ne_dn1, ne_up2, ne_dn2, ne_up3, ne_dn3, ne_up4, ne_dn4, ne_up5, ne_dn5, ne_up6, ne_dn6, bytesOf, aMapUpdate, findA, keyEq, keyFits, aLookup, aAssert, mkIface, mkClo, wrap_i64, wrap_i32, wrap_u8, Int.cast_ofNat_Int, Option.some.injEq, Nat.reduceAdd, Nat.reduceSub, Nat.reduceMul, Nat.reduceEqDiff, Nat.reduceLT, Nat.reduceLeDiff, Nat.reduceMod, Nat.reduceDiv, Int.reduceLT, Int.reduceLE, Int.reduceToNat, Int.reduceNeg, Int.reduceEq, Int.reduceBEq, Int.reduceBNe, Nat.reduceBEq, Int.reduceMul, Int.reduceAdd, Int.reduceSub, Int.reduceDiv, Int.reduceTDiv, Int.reduceTMod, Int.reduceMod]
  · have h4 : ((l.length : Int) != 14) = true := by simp; omega
    have hp : parseR l = none := by
      unfold parseR
      split
      · exact absurd rfl h14
      · rfl
    rw [hp]
    simp only [h4, go_sem, maxLenA, put_put, put_new, ne_up1, ne_dn1, ne_up2, ne_dn2, ne_up3, ne_dn3, ne_up4, ne_dn4, ne_up5, ne_dn5, ne_up6, ne_dn6, bytesOf, aMapUpdate, findA, keyEq, keyFits, aLookup, aAssert, mkIface, mkClo, wrap_i64, wrap_i32, wrap_u8, Int.cast_ofNat_Int, Option.some.injEq, Nat.reduceAdd, Nat.reduceSub, Nat.reduceMul, Nat.reduceEqDiff, Nat.reduceLT, Nat.reduceLeDiff, Nat.reduceMod, Nat.reduceDiv, Int.reduceLT, Int.reduceLE, Int.reduceToNat, Int.reduceNeg, Int.reduceEq, Int.reduceBEq, Int.reduceBNe, Nat.reduceBEq, Int.reduceMul, Int.reduceAdd, Int.reduceSub, Int.reduceDiv, Int.reduceTDiv, Int.reduceTMod, Int.reduceMod]
    exact ends_popped rfl (by simp only [popOk_new, popOk_put_ge, hS.2, next_new, next_put, Nat.le_refl, Nat.le_add_right]) (by simp only [pop_put, pop_new, pop_self hS.1, next_new, next_put, Nat.le_refl, Nat.le_add_right]) ⟨rfl, rfl⟩

end Go.Proofs.Ytnnbhfoimaodhaa
