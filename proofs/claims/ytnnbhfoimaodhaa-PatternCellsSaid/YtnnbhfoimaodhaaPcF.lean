/-
  Contracts of the functions that 'orchestrionlaw05.PatternCells' reaches: the keys by their names.
-/
import Derived.Test.YtnnbhfoimaodhaaPcE
namespace Go.Proofs.Ytnnbhfoimaodhaa
open Go.Abs
set_option linter.unusedVariables false
set_option linter.unusedSimpArgs false
set_option maxHeartbeats 1000000
attribute [local go_sem] sz0 ag0 in0 sz1 ag1 ze1 in1 sz2 ag2 ze2 in2 sz3 ag3 ze3 in3 sz4 ag4 ze4 in4 sz5 ag5 ze5 in5 sz6 ag6 ze6 in6 sz7 ag7 ze7 fi7x0 pl7x0 fi7x1 pl7x1 fi7x2 pl7x2 fi7x3 pl7x3 po7 in7 sz8 ag8 ze8 fi8x0 pl8x0 fi8x1 pl8x1 fi8x2 pl8x2 fi8x3 pl8x3 po8 in8 sz9 ag9 ze9 in9 sz10 ag10 ze10 in10 sz11 ag11 ze11 in11 sz12 ag12 ze12 in12 sz13 ag13 ze13 fi13x0 pl13x0 fi13x1 pl13x1 po13 in13 sz14 ag14 ze14 fi14x0 pl14x0 fi14x1 pl14x1 po14 in14 sz15 ag15 ze15 in15 sz16 ag16 ze16 in16 sz17 ag17 ze17 in17 sz18 ag18 ze18 fi18x0 pl18x0 po18 in18 sz19 ag19 ze19 fi19x0 pl19x0 po19 in19 sz20 ag20 ze20 in20 sz21 ag21 ze21 in21 sz22 ag22 ze22 fi22x0 pl22x0 fi22x1 pl22x1 fi22x2 pl22x2 fi22x3 pl22x3 fi22x4 pl22x4 fi22x5 pl22x5 po22 in22 sz23 ag23 ze23 fi23x0 pl23x0 fi23x1 pl23x1 fi23x2 pl23x2 fi23x3 pl23x3 fi23x4 pl23x4 fi23x5 pl23x5 po23 in23 sz24 ag24 ze24 in24 sz25 ag25 in25 sz26 ag26 ze26 in26 sz27 ag27 ze27 in27 sz28 ag28 in28 sz29 ag29 ze29 in29 sz30 ag30 ze30 in30 sz31 ag31 ze31 in31 sz32 ag32 in32 sz33 ag33 ze33 mp33 in33 sz34 ag34 ze34 in34 sz35 ag35 ze35 in35 sz36 ag36 ze36 el36 in36 sz37 ag37 ze37 in37 sz38 ag38 ze38 in38 sz39 ag39 ze39 el39 in39 sz40 ag40 ze40 in40 sz41 ag41 ze41 in41 sz42 ag42 in42 sz43 ag43 ze43 in43 sz44 ag44 ze44 in44 sz45 ag45 ze45 in45 sz46 ag46 ze46 el46 in46 sz47 ag47 in47 sz48 ag48 ze48 in48 sz49 ag49 ze49 el49 in49 sz50 ag50 ze50 fi50x0 pl50x0 fi50x1 pl50x1 po50 in50 sz51 ag51 ze51 fi51x0 pl51x0 fi51x1 pl51x1 po51 in51 sz52 ag52 ze52 in52 sz53 ag53 ze53 in53 sz54 ag54 ze54 fi54x0 pl54x0 fi54x1 pl54x1 po54 in54 sz55 ag55 ze55 fi55x0 pl55x0 fi55x1 pl55x1 po55 in55 sz56 ag56 ze56 in56 sz57 ag57 ze57 in57 sz58 ag58 ze58 in58 sz59 ag59 in59 sz60 ag60 ze60 in60 sz61 ag61 ze61 in61 sz62 ag62 ze62 in62 sz63 ag63 ze63 in63 sz64 ag64 ze64 in64 sz65 ag65 ze65 in65 sz66 ag66 ze66 in66 sz67 ag67 ze67 in67 sz68 ag68 ze68 in68 sz69 ag69 ze69 in69 sz70 ag70 ze70 in70 sz71 ag71 ze71 fi71x0 pl71x0 fi71x1 pl71x1 fi71x2 pl71x2 fi71x3 pl71x3 fi71x4 pl71x4 po71 in71 sz72 ag72 ze72 fi72x0 pl72x0 fi72x1 pl72x1 fi72x2 pl72x2 fi72x3 pl72x3 fi72x4 pl72x4 po72 in72 sz73 ag73 ze73 pl73x0 pl73x1 pl73x2 pl73x3 po73 in73 sz74 ag74 ze74 in74 sz75 ag75 ze75 in75 sz76 ag76 ze76 el76 in76 sz77 ag77 ze77 in77 sz78 ag78 ze78 in78 sz79 ag79 ze79 in79 sz80 ag80 ze80 in80 sz81 ag81 ze81 in81 sz82 ag82 ze82 fi82x0 pl82x0 fi82x1 pl82x1 fi82x2 pl82x2 fi82x3 pl82x3 po82 in82 sz83 ag83 ze83 fi83x0 pl83x0 fi83x1 pl83x1 fi83x2 pl83x2 fi83x3 pl83x3 po83 in83 sz84 ag84 ze84 po84 in84 sz85 ag85 ze85 fi85x0 pl85x0 po85 in85 sz86 ag86 ze86 fi86x0 pl86x0 po86 in86 sz87 ag87 ze87 in87 sz88 ag88 ze88 in88 sz89 ag89 ze89 in89 sz90 ag90 ze90 in90 sz91 ag91 ze91 in91 sz92 ag92 ze92 in92 sz93 ag93 ze93 in93 sz94 ag94 ze94 fi94x0 pl94x0 fi94x1 pl94x1 fi94x2 pl94x2 fi94x3 pl94x3 fi94x4 pl94x4 fi94x5 pl94x5 fi94x6 pl94x6 fi94x7 pl94x7 fi94x8 pl94x8 fi94x9 pl94x9 fi94x10 pl94x10 po94 in94 sz95 ag95 ze95 fi95x0 pl95x0 fi95x1 pl95x1 fi95x2 pl95x2 fi95x3 pl95x3 fi95x4 pl95x4 fi95x5 pl95x5 fi95x6 pl95x6 fi95x7 pl95x7 fi95x8 pl95x8 fi95x9 pl95x9 fi95x10 pl95x10 po95 in95 Try.underlying0 Try.underlying1 Try.underlying2 Try.underlying3 Try.underlying4 Try.underlying5 Try.underlying6 Try.underlying7 Try.underlying8 Try.underlying9 Try.underlying10 Try.underlying11 Try.underlying12 Try.underlying13 Try.underlying14 Try.underlying15 Try.underlying16 Try.underlying17 Try.underlying18 Try.underlying19 Try.underlying20 Try.underlying21 Try.underlying22 Try.underlying23 Try.underlying24 Try.underlying25 Try.underlying26 Try.underlying27 Try.underlying28 Try.underlying29 Try.underlying30 Try.underlying31 Try.underlying32 Try.underlying33 Try.underlying34 Try.underlying35 Try.underlying36 Try.underlying37 Try.underlying38 Try.underlying39 Try.underlying40 Try.underlying41 Try.underlying42 Try.underlying43 Try.underlying44 Try.underlying45 Try.underlying46 Try.underlying47 Try.underlying48 Try.underlying49 Try.underlying50 Try.underlying51 Try.underlying52 Try.underlying53 Try.underlying54 Try.underlying55 Try.underlying56 Try.underlying57 Try.underlying58 Try.underlying59 Try.underlying60 Try.underlying61 Try.underlying62 Try.underlying63 Try.underlying64 Try.underlying65 Try.underlying66 Try.underlying67 Try.underlying68 Try.underlying69 Try.underlying70 Try.underlying71 Try.underlying72 Try.underlying73 Try.underlying74 Try.underlying75 Try.underlying76 Try.underlying77 Try.underlying78 Try.underlying79 Try.underlying80 Try.underlying81 Try.underlying82 Try.underlying83 Try.underlying84 Try.underlying85 Try.underlying86 Try.underlying87 Try.underlying88 Try.underlying89 Try.underlying90 Try.underlying91 Try.underlying92 Try.underlying93 Try.underlying94 Try.underlying95 ch3x3 pp3x3 ch4x3 pp4x3 ch4x10 pp4x10 ch4x12 pp4x12 ch5x7 pp5x7 ch5x9 pp5x9 ch8x5 pp8x5 ch8x22 pp8x22 ch8x26 pp8x26 ch9x7 pp9x7 ch9x14 pp9x14 ch9x16 pp9x16 ch9x18 pp9x18 ch13x1 pp13x1 ch24x10 pp24x10 ch27x3 pp27x3 ch29x1 pp29x1 ch30x3 pp30x3 ch34x14 pp34x14 ch36x0 pp36x0 ch55x1 pp55x1 ch56x1 pp56x1 ch58x1 pp58x1 ch59x1 pp59x1

def findN (p : List UInt8) : List (List UInt8) → Nat → Option Nat
  | [], _ => none
  | x :: r, i => if x = p then some i else findN p r (i + 1)

/-- A key by its name. -/
def noteV : List UInt8 → Option Nat
  | [a, b, c] => if 48 ≤ c.toNat ∧ c.toNat ≤ 57 then (findN [a, b] nameList 0).map fun i => 12 * (c.toNat - 48) + i else none
  | _ => none

def noteA : Option Nat → List AV
  | some n => [i64 n, i64 0]
  | none => [i64 0, i64 10]

theorem findN_spec (p : List UInt8) : ∀ {l : List (List UInt8)} {i j : Nat}, findN p l i = some j → ∃ k, j = i + k ∧ l[k]? = some p
  | [], i, j, h => by cases h
  | x :: r, i, j, h => by
    simp only [findN] at h
    split at h
    · rename_i e
      cases h
      exact ⟨0, rfl, by simp [e]⟩
    · obtain ⟨k, h1, h2⟩ := findN_spec p h
      exact ⟨k + 1, by omega, by simpa using h2⟩

theorem names_at (i : Nat) (h : i < nameList.length) : nameList[i]? = some (nameList.getD i []) := by
  simp [List.getD, h]

theorem wc19 (l : List UInt8) (S : St) : WC Try.prog 19 [.c (.str l)] (Is (.tup (noteA (noteV l))) S) S := by
  refine wc_fn (fn := Try.f19) (N := 38) (rs := [.tmp 2, .tmp 3]) (by rfl) (by kernel_rfl) (by rfl) (by rfl) (by rfl) (by rfl) fun hS => ?_
  by_cases h3 : l.length = 3
  · match l, h3 with
    | [a, b, c], _ =>
    simp only [beq_self_eq_true, List.getElem?_cons_succ, ge_iff_le, go_sem, maxLenA, put_put, put_new, ne_up1, ne_dn1, ne_up2, ne_dn2, ne_up3, ne_dn3, ne_up4, ne_dn4, ne_up5, ne_dn5, ne_up6, ne_dn6, bytesOf, aMapUpdate, findA, keyEq, keyFits, aLookup, aAssert, mkIface, mkClo, wrap_i64, wrap_i32, wrap_u8, Int.cast_ofNat_Int, Option.some.injEq, Nat.reduceAdd, Nat.reduceSub, Nat.reduceMul, Nat.reduceEqDiff, Nat.reduceLT, Nat.reduceLeDiff, Nat.reduceMod, Nat.reduceDiv, Int.reduceLT, Int.reduceLE, Int.reduceToNat, Int.reduceNeg, Int.reduceEq, Int.reduceBEq, Int.reduceBNe, Nat.reduceBEq, Int.reduceMul, Int.reduceAdd, Int.reduceSub, Int.reduceDiv, Int.reduceTDiv, Int.reduceTMod, Int.reduceMod]
    by_cases hc : 48 ≤ c.toNat ∧ c.toNat ≤ 57
    · have c1 : (48 : Int) ≤ (c.toNat : Int) := by omega
      have c2 : (c.toNat : Int) ≤ 57 := by omega
      simp only [c1, c2, go_sem, maxLenA, put_put, put_new, ne_up1, ne_dn1, ne_up2, ne_dn2, ne_up3, ne_dn3, ne_up4, ne_dn4, ne_up5, ne_dn5, ne_up6, ne_dn6, bytesOf, aMapUpdate, findA, keyEq, keyFits, aLookup, aAssert, mkIface, mkClo, wrap_i64, wrap_i32, wrap_u8, Int.cast_ofNat_Int, Option.some.injEq, Nat.reduceAdd, Nat.reduceSub, Nat.reduceMul, Nat.reduceEqDiff, Nat.reduceLT, Nat.reduceLeDiff, Nat.reduceMod, Nat.reduceDiv, Int.reduceLT, Int.reduceLE, Int.reduceToNat, Int.reduceNeg, Int.reduceEq, Int.reduceBEq, Int.reduceBNe, Nat.reduceBEq, Int.reduceMul, Int.reduceAdd, Int.reduceSub, Int.reduceDiv, Int.reduceTDiv, Int.reduceTMod, Int.reduceMod]
      with_reducible refine wc_is (wc26 _) ?_
      simp only [go_sem, maxLenA, put_put, put_new, ne_up1, ne_dn1, ne_up2, ne_dn2, ne_up3, ne_dn3, ne_up4, ne_dn4, ne_up5, ne_dn5, ne_up6, ne_dn6, bytesOf, aMapUpdate, findA, keyEq, keyFits, aLookup, aAssert, mkIface, mkClo, wrap_i64, wrap_i32, wrap_u8, Int.cast_ofNat_Int, Option.some.injEq, Nat.reduceAdd, Nat.reduceSub, Nat.reduceMul, Nat.reduceEqDiff, Nat.reduceLT, Nat.reduceLeDiff, Nat.reduceMod, Nat.reduceDiv, Int.reduceLT, Int.reduceLE, Int.reduceToNat, Int.reduceNeg, Int.reduceEq, Int.reduceBEq, Int.reduceBNe, Nat.reduceBEq, Int.reduceMul, Int.reduceAdd, Int.reduceSub, Int.reduceDiv, Int.reduceTDiv, Int.reduceTMod, Int.reduceMod]
      have nl : nameList.length = 12 := rfl
      refine wloop_meas (fun n e S' => ∃ i : Nat, S' = S ∧ n = 12 - i ∧ i ≤ 12 ∧ e.get 0 = .c (.str [a, b, c]) ∧ e.get 19 = .c (.sl (nameList.map .str)) ∧ e.get 20 = i64 12 ∧ e.get 21 = i64 i ∧
        findN [a, b] (nameList.drop i) i = findN [a, b] nameList 0) ?_ 12 _ _ ?_
      · rintro n e S' ⟨i, rfl, rfl, hi, g0, g19, g20, g21, hp⟩
        rcases Nat.lt_or_ge i 12 with hlt | hge
        · have h1 : ((i : Int) < 12) := by omega
          have h2 : ¬ ((i : Int) < 0) := by omega
          have h4 : allSize 1 (nameList.map FV.str) = true := allSize_strs _
          have hd : nameList.drop i = nameList.getD i [] :: nameList.drop (i + 1) := by
            rw [List.drop_eq_getElem_cons (by rw [nl]; exact hlt)]
            simp [List.getD, nl, hlt]
          by_cases he : nameList.getD i [] = [a, b]
          · simp only [g0, g19, g20, g21, h1, h2, h4, hlt, Int.toNat_natCast, names_get i hlt, nl, he, beq_self_eq_true, go_sem, maxLenA, put_put, put_new, ne_up1, ne_dn1, ne_up2, ne_dn2, ne_up3, ne_dn3, ne_up4, ne_dn4, ne_up5, ne_dn5, ne_up6, ne_dn6, bytesOf, aMapUpdate, findA, keyEq, keyFits, aLookup, aAssert, mkIface, mkClo, wrap_i64, wrap_i32, wrap_u8, Int.cast_ofNat_Int, Option.some.injEq, Nat.reduceAdd, Nat.reduceSub, Nat.reduceMul, Nat.reduceEqDiff, Nat.reduceLT, Nat.reduceLeDiff, Nat.reduceMod, Nat.reduceDiv, Int.reduceLT, Int.reduceLE, Int.reduceToNat, Int.reduceNeg, Int.reduceEq, Int.reduceBEq, Int.reduceBNe, Nat.reduceBEq, Int.reduceMul, Int.reduceAdd, Int.reduceSub, Int.reduceDiv, Int.reduceTDiv, Int.reduceTMod, Int.reduceMod]
            have w1 : IntKind.u8.wrap ((c.toNat : Int) - 48) = (c.toNat : Int) - 48 := wrap_u8 _ (by omega) (by omega)
            have w2 : IntKind.i64.wrap ((c.toNat : Int) - 48) = (c.toNat : Int) - 48 := wrap_i64 _ (by omega) (by omega)
            have w3 : IntKind.i64.wrap (12 * ((c.toNat : Int) - 48)) = 12 * ((c.toNat : Int) - 48) := wrap_i64 _ (by omega) (by omega)
            have w4 : IntKind.i64.wrap (12 * ((c.toNat : Int) - 48) + i) = 12 * ((c.toNat : Int) - 48) + i := wrap_i64 _ (by omega) (by omega)
            simp only [w1, w2, w3, w4, g21, go_sem, maxLenA, put_put, put_new, ne_up1, ne_dn1, ne_up2, ne_dn2, ne_up3, ne_dn3, ne_up4, ne_dn4, ne_up5, ne_dn5, ne_up6, ne_dn6, bytesOf, aMapUpdate, findA, keyEq, keyFits, aLookup, aAssert, mkIface, mkClo, wrap_i64, wrap_i32, wrap_u8, Int.cast_ofNat_Int, Option.some.injEq, Nat.reduceAdd, Nat.reduceSub, Nat.reduceMul, Nat.reduceEqDiff, Nat.reduceLT, Nat.reduceLeDiff, Nat.reduceMod, Nat.reduceDiv, Int.reduceLT, Int.reduceLE, Int.reduceToNat, Int.reduceNeg, Int.reduceEq, Int.reduceBEq, Int.reduceBNe, Nat.reduceBEq, Int.reduceMul, Int.reduceAdd, Int.reduceSub, Int.reduceDiv, Int.reduceTDiv, Int.reduceTMod, Int.reduceMod]
            refine ends_now ⟨?_, rfl⟩
            have : findN [a, b] nameList 0 = some i := by rw [← hp, hd, findN, if_pos he]
            rw [noteV, if_pos hc, this]
            simp only [Option.map_some, noteA]
            congr 5
            omega
          · have he' : (nameList.getD i [] == [a, b]) = false := by simpa using he
            have w5 : IntKind.i64.wrap ((i : Int) + 1) = ((i + 1 : Nat) : Int) := by
              rw [wrap_i64 _ (by omega) (by omega)]; rfl
            simp only [g0, g19, g20, g21, h1, h2, h4, hlt, Int.toNat_natCast, names_get i hlt, nl, he', w5, go_sem, maxLenA, put_put, put_new, ne_up1, ne_dn1, ne_up2, ne_dn2, ne_up3, ne_dn3, ne_up4, ne_dn4, ne_up5, ne_dn5, ne_up6, ne_dn6, bytesOf, aMapUpdate, findA, keyEq, keyFits, aLookup, aAssert, mkIface, mkClo, wrap_i64, wrap_i32, wrap_u8, Int.cast_ofNat_Int, Option.some.injEq, Nat.reduceAdd, Nat.reduceSub, Nat.reduceMul, Nat.reduceEqDiff, Nat.reduceLT, Nat.reduceLeDiff, Nat.reduceMod, Nat.reduceDiv, Int.reduceLT, Int.reduceLE, Int.reduceToNat, Int.reduceNeg, Int.reduceEq, Int.reduceBEq, Int.reduceBNe, Nat.reduceBEq, Int.reduceMul, Int.reduceAdd, Int.reduceSub, Int.reduceDiv, Int.reduceTDiv, Int.reduceTMod, Int.reduceMod]
            refine ⟨12 - (i + 1), by omega, i + 1, rfl, by omega, rfl, ?_⟩
            rw [← hp, hd, findN, if_neg he]
        · have h1 : ¬ ((i : Int) < 12) := by omega
          simp only [g0, g19, g20, g21, h1, go_sem, maxLenA, put_put, put_new, ne_up1, ne_dn1, ne_up2, ne_dn2, ne_up3, ne_dn3, ne_up4, ne_dn4, ne_up5, ne_dn5, ne_up6, ne_dn6, bytesOf, aMapUpdate, findA, keyEq, keyFits, aLookup, aAssert, mkIface, mkClo, wrap_i64, wrap_i32, wrap_u8, Int.cast_ofNat_Int, Option.some.injEq, Nat.reduceAdd, Nat.reduceSub, Nat.reduceMul, Nat.reduceEqDiff, Nat.reduceLT, Nat.reduceLeDiff, Nat.reduceMod, Nat.reduceDiv, Int.reduceLT, Int.reduceLE, Int.reduceToNat, Int.reduceNeg, Int.reduceEq, Int.reduceBEq, Int.reduceBNe, Nat.reduceBEq, Int.reduceMul, Int.reduceAdd, Int.reduceSub, Int.reduceDiv, Int.reduceTDiv, Int.reduceTMod, Int.reduceMod]
          refine ends_now ⟨?_, rfl⟩
          have : findN [a, b] nameList 0 = none := by rw [← hp, List.drop_eq_nil_of_le (by rw [nl]; exact hge)]; rfl
          rw [noteV, if_pos hc, this]; rfl
      · exact ⟨0, rfl, rfl, by omega, by simp only [go_sem, maxLenA, put_put, put_new, ne_up1, ne_dn1, ne_up2, ne_dn2, ne_up3, ne_dn3, ne_up4, ne_dn4, ne_up5, ne_dn5, ne_up6, ne_dn6, bytesOf, aMapUpdate, findA, keyEq, keyFits, aLookup, aAssert, mkIface, mkClo, wrap_i64, wrap_i32, wrap_u8, Int.cast_ofNat_Int, Option.some.injEq, Nat.reduceAdd, Nat.reduceSub, Nat.reduceMul, Nat.reduceEqDiff, Nat.reduceLT, Nat.reduceLeDiff, Nat.reduceMod, Nat.reduceDiv, Int.reduceLT, Int.reduceLE, Int.reduceToNat, Int.reduceNeg, Int.reduceEq, Int.reduceBEq, Int.reduceBNe, Nat.reduceBEq, Int.reduceMul, Int.reduceAdd, Int.reduceSub, Int.reduceDiv, Int.reduceTDiv, Int.reduceTMod, Int.reduceMod], by simp only [go_sem, maxLenA, put_put, put_new, ne_up1, ne_dn1, ne_up2, ne_dn2, ne_up3, ne_dn3, ne_up4, ne_dn4, ne_up5, ne_dn5, ne_up6, ne_dn6, bytesOf, aMapUpdate, findA, keyEq, keyFits, aLookup, aAssert, mkIface, mkClo, wrap_i64, wrap_i32, wrap_u8, Int.cast_ofNat_Int, Option.some.injEq, Nat.reduceAdd, Nat.reduceSub, Nat.reduceMul, Nat.reduceEqDiff, Nat.reduceLT, Nat.reduceLeDiff, Nat.reduceMod, Nat.reduceDiv, Int.reduceLT, Int.reduceLE, Int.reduceToNat, Int.reduceNeg, Int.reduceEq, Int.reduceBEq, Int.reduceBNe, Nat.reduceBEq, Int.reduceMul, Int.reduceAdd, Int.reduceSub, Int.reduceDiv, Int.reduceTDiv, Int.reduceTMod, Int.reduceMod], by simp only [nl, go_sem, maxLenA, put_put, put_new, ne_up1, ne_dn1, ne_up2, ne_dn2, ne_up3, ne_dn3, ne_up4, ne_dn4, ne_up5, ne_dn5, ne_up6, ne_dn6, bytesOf, aMapUpdate, findA, keyEq, keyFits, aLookup, aAssert, mkIface, mkClo, wrap_i64, wrap_i32, wrap_u8, Int.cast_ofNat_Int, Option.some.injEq, Nat.reduceAdd, Nat.reduceSub, Nat.reduceMul, Nat.reduceEqDiff, Nat.reduceLT, Nat.reduceLeDiff, Nat.reduceMod, Nat.reduceDiv, Int.reduceLT, Int.reduceLE, Int.reduceToNat, Int.reduceNeg, Int.reduceEq, Int.reduceBEq, Int.reduceBNe, Nat.reduceBEq, Int.reduceMul, Int.reduceAdd, Int.reduceSub, Int.reduceDiv, Int.reduceTDiv, Int.reduceTMod, Int.reduceMod], by simp only [go_sem, maxLenA, put_put, put_new, ne_up1, ne_dn1, ne_up2, ne_dn2, ne_up3, ne_dn3, ne_up4, ne_dn4, ne_up5, ne_dn5, ne_up6, ne_dn6, bytesOf, aMapUpdate, findA, keyEq, keyFits, aLookup, aAssert, mkIface, mkClo, wrap_i64, wrap_i32, wrap_u8, Int.cast_ofNat_Int, Option.some.injEq, Nat.reduceAdd, Nat.reduceSub, Nat.reduceMul, Nat.reduceEqDiff, Nat.reduceLT, Nat.reduceLeDiff, Nat.reduceMod, Nat.reduceDiv, Int.reduceLT, Int.reduceLE, Int.reduceToNat, Int.reduceNeg, Int.reduceEq, Int.reduceBEq, Int.reduceBNe, Nat.reduceBEq, Int.reduceMul, Int.reduceAdd, Int.reduceSub, Int.reduceDiv, Int.reduceTDiv, Int.reduceTMod, Int.reduceMod], rfl⟩
    · have : ¬ ((48 : Int) ≤ (c.toNat : Int) ∧ (c.toNat : Int) ≤ 57) := by omega
      rw [show noteV [a, b, c] = none by rw [noteV, if_neg hc]]
      by_cases c1 : (48 : Int) ≤ (c.toNat : Int)
      · have c2 : ¬ (c.toNat : Int) ≤ 57 := fun h => this ⟨c1, h⟩
        simp only [c1, c2, go_sem, maxLenA, put_put, put_new, ne_up1, ne_dn1, ne_up2, ne_dn2, ne_up3, ne_dn3, ne_up4, ne_dn4, ne_up5, ne_dn5, ne_up6, ne_dn6, bytesOf, aMapUpdate, findA, keyEq, keyFits, aLookup, aAssert, mkIface, mkClo, wrap_i64, wrap_i32, wrap_u8, Int.cast_ofNat_Int, Option.some.injEq, Nat.reduceAdd, Nat.reduceSub, Nat.reduceMul, Nat.reduceEqDiff, Nat.reduceLT, Nat.reduceLeDiff, Nat.reduceMod, Nat.reduceDiv, Int.reduceLT, Int.reduceLE, Int.reduceToNat, Int.reduceNeg, Int.reduceEq, Int.reduceBEq, Int.reduceBNe, Nat.reduceBEq, Int.reduceMul, Int.reduceAdd, Int.reduceSub, Int.reduceDiv, Int.reduceTDiv, Int.reduceTMod, Int.reduceMod]
        exact ends_now ⟨rfl, rfl⟩
      · simp only [c1, go_sem, maxLenA, put_put, put_new, ne_up1, ne_dn1, ne_up2, ne_dn2, ne_up3, ne_dn3, ne_up4, ne_dn4, ne_up5, ne_dn5, ne_up6, ne_dn6, bytesOf, aMapUpdate, findA, keyEq, keyFits, aLookup, aAssert, mkIface, mkClo, wrap_i64, wrap_i32, wrap_u8, Int.cast_ofNat_Int, Option.some.injEq, Nat.reduceAdd, Nat.reduceSub, Nat.reduceMul, Nat.reduceEqDiff, Nat.reduceLT, Nat.reduceLeDiff, Nat.reduceMod, Nat.reduceDiv, Int.reduceLT, Int.reduceLE, Int.reduceToNat, Int.reduceNeg, Int.reduceEq, Int.reduceBEq, Int.reduceBNe, Nat.reduceBEq, Int.reduceMul, Int.reduceAdd, Int.reduceSub, Int.reduceDiv, Int.reduceTDiv, Int.reduceTMod, Int.reduceMod]
        exact ends_now ⟨rfl, rfl⟩
  · have h4 : ((l.length : Int) == 3) = false := by simp; omega
    simp only [h4, go_sem, maxLenA, put_put, put_new, ne_up1, ne_dn1, ne_up2, ne_dn2, ne_up3, ne_dn3, ne_up4, ne_dn4, ne_up5, ne_dn5, ne_up6, ne_dn6, bytesOf, aMapUpdate, findA, keyEq, keyFits, aLookup, aAssert, mkIface, mkClo, wrap_i64, wrap_i32, wrap_u8, Int.cast_ofNat_Int, Option.some.injEq, Nat.reduceAdd, Nat.reduceSub, Nat.reduceMul, Nat.reduceEqDiff, Nat.reduceLT, Nat.reduceLeDiff, Nat.reduceMod, Nat.reduceDiv, Int.reduceLT, Int.reduceLE, Int.reduceToNat, Int.reduceNeg, Int.reduceEq, Int.reduceBEq, Int.reduceBNe, Nat.reduceBEq, Int.reduceMul, Int.reduceAdd, Int.reduceSub, Int.reduceDiv, Int.reduceTDiv, Int.reduceTMod, Int.reduceMod]
    refine ends_now ⟨?_, rfl⟩
    match l, h3 with
    | [], _ => rfl
    | [_], _ => rfl
    | [_, _], _ => rfl
    | [_, _, _], h3 => exact absurd rfl h3
    | _ :: _ :: _ :: _ :: _, _ => rfl

/-- The first key with a name. -/
def scanN (l : List UInt8) : Nat → Nat → Option Nat
  | 0, _ => none
  | f + 1, n => if toneName n = l then some n else scanN l f (n + 1)

theorem wc22 (l : List UInt8) (S : St) : WC Try.prog 22 [.c (.str l)] (Is (.tup (noteA (scanN l 120 0))) S) S := by
  refine wc_fn (fn := Try.f22) (N := 14) (rs := [.tmp 2, .tmp 3]) (by rfl) (by kernel_rfl) (by rfl) (by rfl) (by rfl) (by rfl) fun hS => ?_
  simp only [go_sem, maxLenA, put_put, put_new, ne_up1, ne_dn1, ne_up2, ne_dn2, ne_up3, ne_dn3, ne_up4, ne_dn4, ne_up5, ne_dn5, ne_up6, ne_dn6, bytesOf, aMapUpdate, findA, keyEq, keyFits, aLookup, aAssert, mkIface, mkClo, wrap_i64, wrap_i32, wrap_u8, Int.cast_ofNat_Int, Option.some.injEq, Nat.reduceAdd, Nat.reduceSub, Nat.reduceMul, Nat.reduceEqDiff, Nat.reduceLT, Nat.reduceLeDiff, Nat.reduceMod, Nat.reduceDiv, Int.reduceLT, Int.reduceLE, Int.reduceToNat, Int.reduceNeg, Int.reduceEq, Int.reduceBEq, Int.reduceBNe, Nat.reduceBEq, Int.reduceMul, Int.reduceAdd, Int.reduceSub, Int.reduceDiv, Int.reduceTDiv, Int.reduceTMod, Int.reduceMod]
  refine wloop_meas (fun n e S' => ∃ i : Nat, S' = S ∧ n = 120 - i ∧ i ≤ 120 ∧ e.get 0 = .c (.str l) ∧ e.get 4 = i64 i ∧ scanN l (120 - i) i = scanN l 120 0) ?_ 120 _ _ ?_
  · rintro n e S' ⟨i, rfl, rfl, hi, g0, g4, hp⟩
    rcases Nat.lt_or_ge i 120 with hlt | hge
    · have h1 : ((i : Int) < 120) := by omega
      have hs : scanN l (120 - i) i = if toneName i = l then some i else scanN l (120 - (i + 1)) (i + 1) := by
        rw [show 120 - i = (120 - (i + 1)) + 1 by omega]; rfl
      simp only [g0, g4, h1, go_sem, maxLenA, put_put, put_new, ne_up1, ne_dn1, ne_up2, ne_dn2, ne_up3, ne_dn3, ne_up4, ne_dn4, ne_up5, ne_dn5, ne_up6, ne_dn6, bytesOf, aMapUpdate, findA, keyEq, keyFits, aLookup, aAssert, mkIface, mkClo, wrap_i64, wrap_i32, wrap_u8, Int.cast_ofNat_Int, Option.some.injEq, Nat.reduceAdd, Nat.reduceSub, Nat.reduceMul, Nat.reduceEqDiff, Nat.reduceLT, Nat.reduceLeDiff, Nat.reduceMod, Nat.reduceDiv, Int.reduceLT, Int.reduceLE, Int.reduceToNat, Int.reduceNeg, Int.reduceEq, Int.reduceBEq, Int.reduceBNe, Nat.reduceBEq, Int.reduceMul, Int.reduceAdd, Int.reduceSub, Int.reduceDiv, Int.reduceTDiv, Int.reduceTMod, Int.reduceMod]
      with_reducible refine wc_is (wc30 _ _) ?_
      by_cases he : toneName i = l
      · have he' : (toneName i == l) = true := by simpa using he
        simp only [g0, g4, he', go_sem, maxLenA, put_put, put_new, ne_up1, ne_dn1, ne_up2, ne_dn2, ne_up3, ne_dn3, ne_up4, ne_dn4, ne_up5, ne_dn5, ne_up6, ne_dn6, bytesOf, aMapUpdate, findA, keyEq, keyFits, aLookup, aAssert, mkIface, mkClo, wrap_i64, wrap_i32, wrap_u8, Int.cast_ofNat_Int, Option.some.injEq, Nat.reduceAdd, Nat.reduceSub, Nat.reduceMul, Nat.reduceEqDiff, Nat.reduceLT, Nat.reduceLeDiff, Nat.reduceMod, Nat.reduceDiv, Int.reduceLT, Int.reduceLE, Int.reduceToNat, Int.reduceNeg, Int.reduceEq, Int.reduceBEq, Int.reduceBNe, Nat.reduceBEq, Int.reduceMul, Int.reduceAdd, Int.reduceSub, Int.reduceDiv, Int.reduceTDiv, Int.reduceTMod, Int.reduceMod]
        refine ends_now ⟨?_, rfl⟩
        rw [← hp, hs, if_pos he]; rfl
      · have he' : (toneName i == l) = false := by simpa using he
        have w5 : IntKind.i64.wrap ((i : Int) + 1) = ((i + 1 : Nat) : Int) := by
          rw [wrap_i64 _ (by omega) (by omega)]; rfl
        simp only [g0, g4, he', w5, go_sem, maxLenA, put_put, put_new, ne_up1, ne_dn1, ne_up2, ne_dn2, ne_up3, ne_dn3, ne_up4, ne_dn4, ne_up5, ne_dn5, ne_up6, ne_dn6, bytesOf, aMapUpdate, findA, keyEq, keyFits, aLookup, aAssert, mkIface, mkClo, wrap_i64, wrap_i32, wrap_u8, Int.cast_ofNat_Int, Option.some.injEq, Nat.reduceAdd, Nat.reduceSub, Nat.reduceMul, Nat.reduceEqDiff, Nat.reduceLT, Nat.reduceLeDiff, Nat.reduceMod, Nat.reduceDiv, Int.reduceLT, Int.reduceLE, Int.reduceToNat, Int.reduceNeg, Int.reduceEq, Int.reduceBEq, Int.reduceBNe, Nat.reduceBEq, Int.reduceMul, Int.reduceAdd, Int.reduceSub, Int.reduceDiv, Int.reduceTDiv, Int.reduceTMod, Int.reduceMod]
        refine ⟨120 - (i + 1), by omega, i + 1, rfl, by omega, rfl, ?_⟩
        rw [← hp, hs, if_neg he]
    · have h1 : ¬ ((i : Int) < 120) := by omega
      simp only [g0, g4, h1, go_sem, maxLenA, put_put, put_new, ne_up1, ne_dn1, ne_up2, ne_dn2, ne_up3, ne_dn3, ne_up4, ne_dn4, ne_up5, ne_dn5, ne_up6, ne_dn6, bytesOf, aMapUpdate, findA, keyEq, keyFits, aLookup, aAssert, mkIface, mkClo, wrap_i64, wrap_i32, wrap_u8, Int.cast_ofNat_Int, Option.some.injEq, Nat.reduceAdd, Nat.reduceSub, Nat.reduceMul, Nat.reduceEqDiff, Nat.reduceLT, Nat.reduceLeDiff, Nat.reduceMod, Nat.reduceDiv, Int.reduceLT, Int.reduceLE, Int.reduceToNat, Int.reduceNeg, Int.reduceEq, Int.reduceBEq, Int.reduceBNe, Nat.reduceBEq, Int.reduceMul, Int.reduceAdd, Int.reduceSub, Int.reduceDiv, Int.reduceTDiv, Int.reduceTMod, Int.reduceMod]
      refine ends_now ⟨?_, rfl⟩
      rw [← hp, show 120 - i = 0 by omega]; rfl
  · exact ⟨0, rfl, rfl, by omega, by simp only [go_sem, maxLenA, put_put, put_new, ne_up1, ne_dn1, ne_up2, ne_dn2, ne_up3, ne_dn3, ne_up4, ne_dn4, ne_up5, ne_dn5, ne_up6, ne_dn6, bytesOf, aMapUpdate, findA, keyEq, keyFits, aLookup, aAssert, mkIface, mkClo, wrap_i64, wrap_i32, wrap_u8, Int.cast_ofNat_Int, Option.some.injEq, Nat.reduceAdd, Nat.reduceSub, Nat.reduceMul, Nat.reduceEqDiff, Nat.reduceLT, Nat.reduceLeDiff, Nat.reduceMod, Nat.reduceDiv, Int.reduceLT, Int.reduceLE, Int.reduceToNat, Int.reduceNeg, Int.reduceEq, Int.reduceBEq, Int.reduceBNe, Nat.reduceBEq, Int.reduceMul, Int.reduceAdd, Int.reduceSub, Int.reduceDiv, Int.reduceTDiv, Int.reduceTMod, Int.reduceMod], by simp only [go_sem, maxLenA, put_put, put_new, ne_up1, ne_dn1, ne_up2, ne_dn2, ne_up3, ne_dn3, ne_up4, ne_dn4, ne_up5, ne_dn5, ne_up6, ne_dn6, bytesOf, aMapUpdate, findA, keyEq, keyFits, aLookup, aAssert, mkIface, mkClo, wrap_i64, wrap_i32, wrap_u8, Int.cast_ofNat_Int, Option.some.injEq, Nat.reduceAdd, Nat.reduceSub, Nat.reduceMul, Nat.reduceEqDiff, Nat.reduceLT, Nat.reduceLeDiff, Nat.reduceMod, Nat.reduceDiv, Int.reduceLT, Int.reduceLE, Int.reduceToNat, Int.reduceNeg, Int.reduceEq, Int.reduceBEq, Int.reduceBNe, Nat.reduceBEq, Int.reduceMul, Int.reduceAdd, Int.reduceSub, Int.reduceDiv, Int.reduceTDiv, Int.reduceTMod, Int.reduceMod], rfl⟩

theorem noteV_name : ∀ n : Fin 120, noteV (toneName n.val) = some n.val := by decide

theorem name_noteV {l : List UInt8} {n : Nat} (h : noteV l = some n) : n < 120 ∧ toneName n = l := by
  unfold noteV at h
  split at h
  · rename_i a b c
    split at h
    · rename_i hc
      cases hf : findN [a, b] nameList 0 with
      | none => rw [hf] at h; cases h
      | some i =>
        rw [hf] at h
        simp only [Option.map_some, Option.some.injEq] at h
        subst h
        obtain ⟨k, h1, h2⟩ := findN_spec _ hf
        have hk : k < 12 := (List.getElem?_eq_some_iff.1 h2).1
        obtain rfl : i = k := by omega
        have e1 : (12 * (c.toNat - 48) + i) % 12 = i := by omega
        have e2 : (12 * (c.toNat - 48) + i) / 12 = c.toNat - 48 := by omega
        have e3 : nameList.getD i [] = [a, b] := by simp [List.getD, h2]
        refine ⟨by omega, ?_⟩
        unfold toneName
        rw [if_pos (by omega), Int.toNat_natCast, e1, e2, e3]
        have : UInt8.ofNat (48 + (c.toNat - 48)) = c := by
          rw [show 48 + (c.toNat - 48) = c.toNat by omega]; simp
        rw [this]; rfl
    · cases h
  · cases h

theorem scanN_some {l : List UInt8} : ∀ {f n k : Nat}, scanN l f n = some k → k < n + f ∧ toneName k = l
  | 0, _, _, h => by cases h
  | f + 1, n, k, h => by
    simp only [scanN] at h
    split at h
    · cases h; exact ⟨by omega, ‹_›⟩
    · obtain ⟨h1, h2⟩ := scanN_some h
      exact ⟨by omega, h2⟩

theorem scanN_none {l : List UInt8} : ∀ {f n : Nat}, scanN l f n = none → ∀ k, n ≤ k → k < n + f → toneName k ≠ l
  | 0, n, _, k, h1, h2 => by omega
  | f + 1, n, h, k, h1, h2 => by
    simp only [scanN] at h
    split at h
    · cases h
    · rename_i hne
      rcases Nat.eq_or_lt_of_le h1 with rfl | h3
      · exact hne
      · exact scanN_none h k h3 (by omega)

theorem scan_note (l : List UInt8) : scanN l 120 0 = noteV l := by
  cases h : scanN l 120 0 with
  | some k =>
    obtain ⟨h1, h2⟩ := scanN_some h
    rw [← h2]
    exact (noteV_name ⟨k, by omega⟩).symm
  | none =>
    cases h' : noteV l with
    | none => rfl
    | some n =>
      obtain ⟨h1, h2⟩ := name_noteV h'
      exact absurd h2 (scanN_none h n (by omega) (by omega))

end Go.Proofs.Ytnnbhfoimaodhaa
