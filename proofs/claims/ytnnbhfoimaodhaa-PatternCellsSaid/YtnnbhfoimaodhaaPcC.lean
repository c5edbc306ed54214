/-
  Contracts of the functions that 'orchestrionlaw05.PatternCells' reaches: the texts of cells.
-/
import Derived.Test.YtnnbhfoimaodhaaPcB
namespace Go.Proofs.Ytnnbhfoimaodhaa
open Go.Abs
set_option linter.unusedVariables false
set_option linter.unusedSimpArgs false
set_option maxHeartbeats 1000000
attribute [local go_sem] sz0 ag0 in0 sz1 ag1 ze1 in1 sz2 ag2 ze2 in2 sz3 ag3 ze3 in3 sz4 ag4 ze4 in4 sz5 ag5 ze5 in5 sz6 ag6 ze6 in6 sz7 ag7 ze7 fi7x0 pl7x0 fi7x1 pl7x1 fi7x2 pl7x2 fi7x3 pl7x3 po7 in7 sz8 ag8 ze8 fi8x0 pl8x0 fi8x1 pl8x1 fi8x2 pl8x2 fi8x3 pl8x3 po8 in8 sz9 ag9 ze9 in9 sz10 ag10 ze10 in10 sz11 ag11 ze11 in11 sz12 ag12 ze12 in12 sz13 ag13 ze13 fi13x0 pl13x0 fi13x1 pl13x1 po13 in13 sz14 ag14 ze14 fi14x0 pl14x0 fi14x1 pl14x1 po14 in14 sz15 ag15 ze15 in15 sz16 ag16 ze16 in16 sz17 ag17 ze17 in17 sz18 ag18 ze18 fi18x0 pl18x0 po18 in18 sz19 ag19 ze19 fi19x0 pl19x0 po19 in19 sz20 ag20 ze20 in20 sz21 ag21 ze21 in21 sz22 ag22 ze22 fi22x0 pl22x0 fi22x1 pl22x1 fi22x2 pl22x2 fi22x3 pl22x3 fi22x4 pl22x4 fi22x5 pl22x5 po22 in22 sz23 ag23 ze23 fi23x0 pl23x0 fi23x1 pl23x1 fi23x2 pl23x2 fi23x3 pl23x3 fi23x4 pl23x4 fi23x5 pl23x5 po23 in23 sz24 ag24 ze24 in24 sz25 ag25 in25 sz26 ag26 ze26 in26 sz27 ag27 ze27 in27 sz28 ag28 in28 sz29 ag29 ze29 in29 sz30 ag30 ze30 in30 sz31 ag31 ze31 in31 sz32 ag32 in32 sz33 ag33 ze33 mp33 in33 sz34 ag34 ze34 in34 sz35 ag35 ze35 in35 sz36 ag36 ze36 el36 in36 sz37 ag37 ze37 in37 sz38 ag38 ze38 in38 sz39 ag39 ze39 el39 in39 sz40 ag40 ze40 in40 sz41 ag41 ze41 in41 sz42 ag42 in42 sz43 ag43 ze43 in43 sz44 ag44 ze44 in44 sz45 ag45 ze45 in45 sz46 ag46 ze46 el46 in46 sz47 ag47 in47 sz48 ag48 ze48 in48 sz49 ag49 ze49 el49 in49 sz50 ag50 ze50 fi50x0 pl50x0 fi50x1 pl50x1 po50 in50 sz51 ag51 ze51 fi51x0 pl51x0 fi51x1 pl51x1 po51 in51 sz52 ag52 ze52 in52 sz53 ag53 ze53 in53 sz54 ag54 ze54 fi54x0 pl54x0 fi54x1 pl54x1 po54 in54 sz55 ag55 ze55 fi55x0 pl55x0 fi55x1 pl55x1 po55 in55 sz56 ag56 ze56 in56 sz57 ag57 ze57 in57 sz58 ag58 ze58 in58 sz59 ag59 in59 sz60 ag60 ze60 in60 sz61 ag61 ze61 in61 sz62 ag62 ze62 in62 sz63 ag63 ze63 in63 sz64 ag64 ze64 in64 sz65 ag65 ze65 in65 sz66 ag66 ze66 in66 sz67 ag67 ze67 in67 sz68 ag68 ze68 in68 sz69 ag69 ze69 in69 sz70 ag70 ze70 in70 sz71 ag71 ze71 fi71x0 pl71x0 fi71x1 pl71x1 fi71x2 pl71x2 fi71x3 pl71x3 fi71x4 pl71x4 po71 in71 sz72 ag72 ze72 fi72x0 pl72x0 fi72x1 pl72x1 fi72x2 pl72x2 fi72x3 pl72x3 fi72x4 pl72x4 po72 in72 sz73 ag73 ze73 pl73x0 pl73x1 pl73x2 pl73x3 po73 in73 sz74 ag74 ze74 in74 sz75 ag75 ze75 in75 sz76 ag76 ze76 el76 in76 sz77 ag77 ze77 in77 sz78 ag78 ze78 in78 sz79 ag79 ze79 in79 sz80 ag80 ze80 in80 sz81 ag81 ze81 in81 sz82 ag82 ze82 fi82x0 pl82x0 fi82x1 pl82x1 fi82x2 pl82x2 fi82x3 pl82x3 po82 in82 sz83 ag83 ze83 fi83x0 pl83x0 fi83x1 pl83x1 fi83x2 pl83x2 fi83x3 pl83x3 po83 in83 sz84 ag84 ze84 po84 in84 sz85 ag85 ze85 fi85x0 pl85x0 po85 in85 sz86 ag86 ze86 fi86x0 pl86x0 po86 in86 sz87 ag87 ze87 in87 sz88 ag88 ze88 in88 sz89 ag89 ze89 in89 sz90 ag90 ze90 in90 sz91 ag91 ze91 in91 sz92 ag92 ze92 in92 sz93 ag93 ze93 in93 sz94 ag94 ze94 fi94x0 pl94x0 fi94x1 pl94x1 fi94x2 pl94x2 fi94x3 pl94x3 fi94x4 pl94x4 fi94x5 pl94x5 fi94x6 pl94x6 fi94x7 pl94x7 fi94x8 pl94x8 fi94x9 pl94x9 fi94x10 pl94x10 po94 in94 sz95 ag95 ze95 fi95x0 pl95x0 fi95x1 pl95x1 fi95x2 pl95x2 fi95x3 pl95x3 fi95x4 pl95x4 fi95x5 pl95x5 fi95x6 pl95x6 fi95x7 pl95x7 fi95x8 pl95x8 fi95x9 pl95x9 fi95x10 pl95x10 po95 in95 Try.underlying0 Try.underlying1 Try.underlying2 Try.underlying3 Try.underlying4 Try.underlying5 Try.underlying6 Try.underlying7 Try.underlying8 Try.underlying9 Try.underlying10 Try.underlying11 Try.underlying12 Try.underlying13 Try.underlying14 Try.underlying15 Try.underlying16 Try.underlying17 Try.underlying18 Try.underlying19 Try.underlying20 Try.underlying21 Try.underlying22 Try.underlying23 Try.underlying24 Try.underlying25 Try.underlying26 Try.underlying27 Try.underlying28 Try.underlying29 Try.underlying30 Try.underlying31 Try.underlying32 Try.underlying33 Try.underlying34 Try.underlying35 Try.underlying36 Try.underlying37 Try.underlying38 Try.underlying39 Try.underlying40 Try.underlying41 Try.underlying42 Try.underlying43 Try.underlying44 Try.underlying45 Try.underlying46 Try.underlying47 Try.underlying48 Try.underlying49 Try.underlying50 Try.underlying51 Try.underlying52 Try.underlying53 Try.underlying54 Try.underlying55 Try.underlying56 Try.underlying57 Try.underlying58 Try.underlying59 Try.underlying60 Try.underlying61 Try.underlying62 Try.underlying63 Try.underlying64 Try.underlying65 Try.underlying66 Try.underlying67 Try.underlying68 Try.underlying69 Try.underlying70 Try.underlying71 Try.underlying72 Try.underlying73 Try.underlying74 Try.underlying75 Try.underlying76 Try.underlying77 Try.underlying78 Try.underlying79 Try.underlying80 Try.underlying81 Try.underlying82 Try.underlying83 Try.underlying84 Try.underlying85 Try.underlying86 Try.underlying87 Try.underlying88 Try.underlying89 Try.underlying90 Try.underlying91 Try.underlying92 Try.underlying93 Try.underlying94 Try.underlying95 ch3x3 pp3x3 ch4x3 pp4x3 ch4x10 pp4x10 ch4x12 pp4x12 ch5x7 pp5x7 ch5x9 pp5x9 ch8x5 pp8x5 ch8x22 pp8x22 ch8x26 pp8x26 ch9x7 pp9x7 ch9x14 pp9x14 ch9x16 pp9x16 ch9x18 pp9x18 ch13x1 pp13x1 ch24x10 pp24x10 ch27x3 pp27x3 ch29x1 pp29x1 ch30x3 pp30x3 ch34x14 pp34x14 ch36x0 pp36x0 ch55x1 pp55x1 ch56x1 pp56x1 ch58x1 pp58x1 ch59x1 pp59x1

def markMap : List (FV × AV) := [(.int .i64 0, .c (.str [46, 46, 46])), (.int .i64 255, .c (.str [61, 61, 61])), (.int .i64 254, .c (.str [94, 94, 94])), (.int .i64 253, .c (.str [126, 126, 126]))]

theorem wc11 (S : St) : WC Try.prog 11 [] (Is (.map S.next) (S.new (.map markMap [0, 1, 2, 3] 4))) S := by
  refine wc_fn (fn := Try.f11) (N := 3) (rs := [.tmp 0]) (by rfl) (by kernel_rfl) (by rfl) (by rfl) (by rfl) (by rfl) fun hS => ?_
  simp only [go_sem, maxLenA, put_put, put_new, ne_up1, ne_dn1, ne_up2, ne_dn2, ne_up3, ne_dn3, ne_up4, ne_dn4, ne_up5, ne_dn5, ne_up6, ne_dn6, bytesOf, aMapUpdate, findA, keyEq, keyFits, aLookup, aAssert, mkIface, mkClo, wrap_i64, wrap_i32, wrap_u8, Int.cast_ofNat_Int, Option.some.injEq, Nat.reduceAdd, Nat.reduceSub, Nat.reduceMul, Nat.reduceEqDiff, Nat.reduceLT, Nat.reduceLeDiff, Nat.reduceMod, Nat.reduceDiv, Int.reduceLT, Int.reduceLE, Int.reduceToNat, Int.reduceNeg, Int.reduceEq, Int.reduceBEq, Int.reduceBNe, Nat.reduceBEq, Int.reduceMul, Int.reduceAdd, Int.reduceSub, Int.reduceDiv, Int.reduceTDiv, Int.reduceTMod, Int.reduceMod]
  exact ends_now ⟨rfl, rfl⟩

open Go.RowKit in
theorem wc21 (s : List UInt8) (c : Int) (S : St) : WC Try.prog 21 [.c (.str s), .c (.int .u8 c)] (Is (i64 (Lib.indexByte s c.toNat.toUInt8)) S) S := by
  refine wc_calls (fun vals w => Try.call21 vals w) fun G vals w hr hI => ?_
  obtain ⟨x, y, rfl, hx, hy⟩ := relL_two hr
  rw [rel_str hx, rel_int hy]
  refine Calls.mono (Try.strings_IndexByte ⟨s.toArray⟩ c w) ?_
  rintro e w' ⟨rfl, rfl⟩
  exact ⟨_, rfl, .c (.int _ _), .refl _ _⟩

open Go.RowKit in
theorem wc14 {b off : Nat} {full : Bool} {xs : List (List UInt8)} {sep : List UInt8} {cs : List AV} {ro : Nat} {T : TypeId} {S : St} (hb : S.get b = some (.blk cs ro T))
    (hcs : ∀ (j : Nat) (x : List UInt8), xs[j]? = some x → cs[off + j]? = some (.c (.str x))) (hlen : (Lib.join xs sep).length ≤ 140737488355328) (hN : xs.length ≤ 140737488355328) (h0 : 0 < xs.length) :
    WC Try.prog 14 [.sl b off xs.length 1 full, .c (.str sep)] (Is (.c (.str (Lib.join xs sep))) S) S := by
  refine wc_calls (fun vals w => Try.call14 vals w) fun G vals w hr hI => ?_
  obtain ⟨x, y, rfl, hx, hy⟩ := relL_two hr
  rw [rel_str hy]
  cases hx with
  | @sl _ _ _ _ _ B a cap hB ha hl hrm hf hk =>
    rw [ha (by omega)]
    obtain ⟨B', hB', _, _, C, T', lo, hi, hC, _, hcell, _⟩ := hI.obs b _ hb rfl
    rw [hB] at hB'
    cases hB'
    have hmap : (xs.map fun x => (⟨x.toArray⟩ : ByteArray)).map (·.data.toList) = xs := by simp [List.map_map, Function.comp_def]
    have key := Try.strings_Join B.g (B.o + off) cap (xs.map fun x => (⟨x.toArray⟩ : ByteArray)) ⟨sep.toArray⟩ w (fun j x hj => by
        rw [List.getElem?_map] at hj
        cases hxj : xs[j]? with
        | none => rw [hxj] at hj; cases hj
        | some z =>
          rw [hxj] at hj
          cases hj
          obtain ⟨v, v1, v2, _⟩ := hcell _ _ (hcs j z hxj)
          rw [rel_str v2] at v1
          rw [cell_at hC, Nat.add_assoc]
          exact v1) (heap_lt hC) (by simpa using hN) (by simpa using hl) (by rw [hmap]; exact hlen)
    rw [List.length_map, hmap] at key
    refine Calls.mono key ?_
    rintro e w' ⟨rfl, hbel⟩
    exact ⟨_, rfl, str_rel _ _, hbel⟩

end Go.Proofs.Ytnnbhfoimaodhaa
