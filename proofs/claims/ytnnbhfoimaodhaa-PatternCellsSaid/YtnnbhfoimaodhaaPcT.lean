/-
  The types and the plans of the seat's program, as the abstract machine reads them. Printed by wip/tools/GenT.lean.
-/
import Derived.Test.YtnnbhfoimaodhaaRows
import Derived.Test.YtnnbhfoimaodhaaAbsW
import Derived.KernelRfl
namespace Go.Proofs.Ytnnbhfoimaodhaa
open Go.Abs
theorem sz0 : szT Try.prog 0 = some 1 := by kernel_rfl
theorem ag0 : isAggT Try.prog 0 = some false := by kernel_rfl
theorem in0 : Try.prog.info? 0 = some Try.t0 := by kernel_rfl
theorem sz1 : szT Try.prog 1 = some 1 := by kernel_rfl
theorem ag1 : isAggT Try.prog 1 = some false := by kernel_rfl
theorem ze1 : zeroT Try.prog 1 = some (.nilf) := by kernel_rfl
theorem in1 : Try.prog.info? 1 = some Try.t1 := by kernel_rfl
theorem sz2 : szT Try.prog 2 = some 1 := by kernel_rfl
theorem ag2 : isAggT Try.prog 2 = some false := by kernel_rfl
theorem ze2 : zeroT Try.prog 2 = some (.int IntKind.i64 (0)) := by kernel_rfl
theorem in2 : Try.prog.info? 2 = some Try.t2 := by kernel_rfl
theorem sz3 : szT Try.prog 3 = some 1 := by kernel_rfl
theorem ag3 : isAggT Try.prog 3 = some false := by kernel_rfl
theorem ze3 : zeroT Try.prog 3 = some (.int IntKind.i64 (0)) := by kernel_rfl
theorem in3 : Try.prog.info? 3 = some Try.t3 := by kernel_rfl
theorem sz4 : szT Try.prog 4 = some 1 := by kernel_rfl
theorem ag4 : isAggT Try.prog 4 = some false := by kernel_rfl
theorem ze4 : zeroT Try.prog 4 = some (.bool false) := by kernel_rfl
theorem in4 : Try.prog.info? 4 = some Try.t4 := by kernel_rfl
theorem sz5 : szT Try.prog 5 = some 1 := by kernel_rfl
theorem ag5 : isAggT Try.prog 5 = some false := by kernel_rfl
theorem ze5 : zeroT Try.prog 5 = some (.int IntKind.u8 (0)) := by kernel_rfl
theorem in5 : Try.prog.info? 5 = some Try.t5 := by kernel_rfl
theorem sz6 : szT Try.prog 6 = some 1 := by kernel_rfl
theorem ag6 : isAggT Try.prog 6 = some false := by kernel_rfl
theorem ze6 : zeroT Try.prog 6 = some (.int IntKind.u8 (0)) := by kernel_rfl
theorem in6 : Try.prog.info? 6 = some Try.t6 := by kernel_rfl
theorem sz7 : szT Try.prog 7 = some 4 := by kernel_rfl
theorem ag7 : isAggT Try.prog 7 = some true := by kernel_rfl
theorem ze7 : zeroT Try.prog 7 = some (.agg [.int IntKind.i64 (0), .int IntKind.i64 (0), .bool false, .int IntKind.u8 (0)]) := by kernel_rfl
theorem fi7x0 : fieldT Try.prog 7 0 = some (2, 0) := by kernel_rfl
theorem pl7x0 : placeA Try.prog 7 0 = some (0, 1) := by kernel_rfl
theorem fi7x1 : fieldT Try.prog 7 1 = some (3, 1) := by kernel_rfl
theorem pl7x1 : placeA Try.prog 7 1 = some (1, 1) := by kernel_rfl
theorem fi7x2 : fieldT Try.prog 7 2 = some (4, 2) := by kernel_rfl
theorem pl7x2 : placeA Try.prog 7 2 = some (2, 1) := by kernel_rfl
theorem fi7x3 : fieldT Try.prog 7 3 = some (6, 3) := by kernel_rfl
theorem pl7x3 : placeA Try.prog 7 3 = some (3, 1) := by kernel_rfl
theorem po7 : placesOk Try.prog 7 = true := by kernel_rfl
theorem in7 : Try.prog.info? 7 = some Try.t7 := by kernel_rfl
theorem sz8 : szT Try.prog 8 = some 4 := by kernel_rfl
theorem ag8 : isAggT Try.prog 8 = some true := by kernel_rfl
theorem ze8 : zeroT Try.prog 8 = some (.agg [.int IntKind.i64 (0), .int IntKind.i64 (0), .bool false, .int IntKind.u8 (0)]) := by kernel_rfl
theorem fi8x0 : fieldT Try.prog 8 0 = some (2, 0) := by kernel_rfl
theorem pl8x0 : placeA Try.prog 8 0 = some (0, 1) := by kernel_rfl
theorem fi8x1 : fieldT Try.prog 8 1 = some (3, 1) := by kernel_rfl
theorem pl8x1 : placeA Try.prog 8 1 = some (1, 1) := by kernel_rfl
theorem fi8x2 : fieldT Try.prog 8 2 = some (4, 2) := by kernel_rfl
theorem pl8x2 : placeA Try.prog 8 2 = some (2, 1) := by kernel_rfl
theorem fi8x3 : fieldT Try.prog 8 3 = some (6, 3) := by kernel_rfl
theorem pl8x3 : placeA Try.prog 8 3 = some (3, 1) := by kernel_rfl
theorem po8 : placesOk Try.prog 8 = true := by kernel_rfl
theorem in8 : Try.prog.info? 8 = some Try.t8 := by kernel_rfl
theorem sz9 : szT Try.prog 9 = some 1 := by kernel_rfl
theorem ag9 : isAggT Try.prog 9 = some false := by kernel_rfl
theorem ze9 : zeroT Try.prog 9 = some (.str []) := by kernel_rfl
theorem in9 : Try.prog.info? 9 = some Try.t9 := by kernel_rfl
theorem sz10 : szT Try.prog 10 = some 1 := by kernel_rfl
theorem ag10 : isAggT Try.prog 10 = some false := by kernel_rfl
theorem ze10 : zeroT Try.prog 10 = some (.str []) := by kernel_rfl
theorem in10 : Try.prog.info? 10 = some Try.t10 := by kernel_rfl
theorem sz11 : szT Try.prog 11 = some 1 := by kernel_rfl
theorem ag11 : isAggT Try.prog 11 = some false := by kernel_rfl
theorem ze11 : zeroT Try.prog 11 = some (.str []) := by kernel_rfl
theorem in11 : Try.prog.info? 11 = some Try.t11 := by kernel_rfl
theorem sz12 : szT Try.prog 12 = some 1 := by kernel_rfl
theorem ag12 : isAggT Try.prog 12 = some false := by kernel_rfl
theorem ze12 : zeroT Try.prog 12 = some (.int IntKind.u64 (0)) := by kernel_rfl
theorem in12 : Try.prog.info? 12 = some Try.t12 := by kernel_rfl
theorem sz13 : szT Try.prog 13 = some 2 := by kernel_rfl
theorem ag13 : isAggT Try.prog 13 = some true := by kernel_rfl
theorem ze13 : zeroT Try.prog 13 = some (.agg [.str [], .int IntKind.u64 (0)]) := by kernel_rfl
theorem fi13x0 : fieldT Try.prog 13 0 = some (9, 0) := by kernel_rfl
theorem pl13x0 : placeA Try.prog 13 0 = some (0, 1) := by kernel_rfl
theorem fi13x1 : fieldT Try.prog 13 1 = some (12, 1) := by kernel_rfl
theorem pl13x1 : placeA Try.prog 13 1 = some (1, 1) := by kernel_rfl
theorem po13 : placesOk Try.prog 13 = true := by kernel_rfl
theorem in13 : Try.prog.info? 13 = some Try.t13 := by kernel_rfl
theorem sz14 : szT Try.prog 14 = some 2 := by kernel_rfl
theorem ag14 : isAggT Try.prog 14 = some true := by kernel_rfl
theorem ze14 : zeroT Try.prog 14 = some (.agg [.str [], .int IntKind.u64 (0)]) := by kernel_rfl
theorem fi14x0 : fieldT Try.prog 14 0 = some (9, 0) := by kernel_rfl
theorem pl14x0 : placeA Try.prog 14 0 = some (0, 1) := by kernel_rfl
theorem fi14x1 : fieldT Try.prog 14 1 = some (12, 1) := by kernel_rfl
theorem pl14x1 : placeA Try.prog 14 1 = some (1, 1) := by kernel_rfl
theorem po14 : placesOk Try.prog 14 = true := by kernel_rfl
theorem in14 : Try.prog.info? 14 = some Try.t14 := by kernel_rfl
theorem sz15 : szT Try.prog 15 = some 1 := by kernel_rfl
theorem ag15 : isAggT Try.prog 15 = some false := by kernel_rfl
theorem ze15 : zeroT Try.prog 15 = some (.nilp) := by kernel_rfl
theorem in15 : Try.prog.info? 15 = some Try.t15 := by kernel_rfl
theorem sz16 : szT Try.prog 16 = some 1 := by kernel_rfl
theorem ag16 : isAggT Try.prog 16 = some false := by kernel_rfl
theorem ze16 : zeroT Try.prog 16 = some (.nilp) := by kernel_rfl
theorem in16 : Try.prog.info? 16 = some Try.t16 := by kernel_rfl
theorem sz17 : szT Try.prog 17 = some 1 := by kernel_rfl
theorem ag17 : isAggT Try.prog 17 = some false := by kernel_rfl
theorem ze17 : zeroT Try.prog 17 = some (.nilp) := by kernel_rfl
theorem in17 : Try.prog.info? 17 = some Try.t17 := by kernel_rfl
theorem sz18 : szT Try.prog 18 = some 1 := by kernel_rfl
theorem ag18 : isAggT Try.prog 18 = some true := by kernel_rfl
theorem ze18 : zeroT Try.prog 18 = some (.agg [.nilp]) := by kernel_rfl
theorem fi18x0 : fieldT Try.prog 18 0 = some (17, 0) := by kernel_rfl
theorem pl18x0 : placeA Try.prog 18 0 = some (0, 1) := by kernel_rfl
theorem po18 : placesOk Try.prog 18 = true := by kernel_rfl
theorem in18 : Try.prog.info? 18 = some Try.t18 := by kernel_rfl
theorem sz19 : szT Try.prog 19 = some 1 := by kernel_rfl
theorem ag19 : isAggT Try.prog 19 = some true := by kernel_rfl
theorem ze19 : zeroT Try.prog 19 = some (.agg [.nilp]) := by kernel_rfl
theorem fi19x0 : fieldT Try.prog 19 0 = some (17, 0) := by kernel_rfl
theorem pl19x0 : placeA Try.prog 19 0 = some (0, 1) := by kernel_rfl
theorem po19 : placesOk Try.prog 19 = true := by kernel_rfl
theorem in19 : Try.prog.info? 19 = some Try.t19 := by kernel_rfl
theorem sz20 : szT Try.prog 20 = some 1 := by kernel_rfl
theorem ag20 : isAggT Try.prog 20 = some false := by kernel_rfl
theorem ze20 : zeroT Try.prog 20 = some (.nili) := by kernel_rfl
theorem in20 : Try.prog.info? 20 = some Try.t20 := by kernel_rfl
theorem sz21 : szT Try.prog 21 = some 1 := by kernel_rfl
theorem ag21 : isAggT Try.prog 21 = some false := by kernel_rfl
theorem ze21 : zeroT Try.prog 21 = some (.int IntKind.i32 (0)) := by kernel_rfl
theorem in21 : Try.prog.info? 21 = some Try.t21 := by kernel_rfl
theorem sz22 : szT Try.prog 22 = some 6 := by kernel_rfl
theorem ag22 : isAggT Try.prog 22 = some true := by kernel_rfl
theorem ze22 : zeroT Try.prog 22 = some (.agg [.int IntKind.i64 (0), .int IntKind.i64 (0), .int IntKind.i64 (0), .int IntKind.i64 (0), .int IntKind.i64 (0), .int IntKind.i64 (0)]) := by kernel_rfl
theorem fi22x0 : fieldT Try.prog 22 0 = some (3, 0) := by kernel_rfl
theorem pl22x0 : placeA Try.prog 22 0 = some (0, 1) := by kernel_rfl
theorem fi22x1 : fieldT Try.prog 22 1 = some (3, 1) := by kernel_rfl
theorem pl22x1 : placeA Try.prog 22 1 = some (1, 1) := by kernel_rfl
theorem fi22x2 : fieldT Try.prog 22 2 = some (3, 2) := by kernel_rfl
theorem pl22x2 : placeA Try.prog 22 2 = some (2, 1) := by kernel_rfl
theorem fi22x3 : fieldT Try.prog 22 3 = some (3, 3) := by kernel_rfl
theorem pl22x3 : placeA Try.prog 22 3 = some (3, 1) := by kernel_rfl
theorem fi22x4 : fieldT Try.prog 22 4 = some (3, 4) := by kernel_rfl
theorem pl22x4 : placeA Try.prog 22 4 = some (4, 1) := by kernel_rfl
theorem fi22x5 : fieldT Try.prog 22 5 = some (3, 5) := by kernel_rfl
theorem pl22x5 : placeA Try.prog 22 5 = some (5, 1) := by kernel_rfl
theorem po22 : placesOk Try.prog 22 = true := by kernel_rfl
theorem in22 : Try.prog.info? 22 = some Try.t22 := by kernel_rfl
theorem sz23 : szT Try.prog 23 = some 6 := by kernel_rfl
theorem ag23 : isAggT Try.prog 23 = some true := by kernel_rfl
theorem ze23 : zeroT Try.prog 23 = some (.agg [.int IntKind.i64 (0), .int IntKind.i64 (0), .int IntKind.i64 (0), .int IntKind.i64 (0), .int IntKind.i64 (0), .int IntKind.i64 (0)]) := by kernel_rfl
theorem fi23x0 : fieldT Try.prog 23 0 = some (3, 0) := by kernel_rfl
theorem pl23x0 : placeA Try.prog 23 0 = some (0, 1) := by kernel_rfl
theorem fi23x1 : fieldT Try.prog 23 1 = some (3, 1) := by kernel_rfl
theorem pl23x1 : placeA Try.prog 23 1 = some (1, 1) := by kernel_rfl
theorem fi23x2 : fieldT Try.prog 23 2 = some (3, 2) := by kernel_rfl
theorem pl23x2 : placeA Try.prog 23 2 = some (2, 1) := by kernel_rfl
theorem fi23x3 : fieldT Try.prog 23 3 = some (3, 3) := by kernel_rfl
theorem pl23x3 : placeA Try.prog 23 3 = some (3, 1) := by kernel_rfl
theorem fi23x4 : fieldT Try.prog 23 4 = some (3, 4) := by kernel_rfl
theorem pl23x4 : placeA Try.prog 23 4 = some (4, 1) := by kernel_rfl
theorem fi23x5 : fieldT Try.prog 23 5 = some (3, 5) := by kernel_rfl
theorem pl23x5 : placeA Try.prog 23 5 = some (5, 1) := by kernel_rfl
theorem po23 : placesOk Try.prog 23 = true := by kernel_rfl
theorem in23 : Try.prog.info? 23 = some Try.t23 := by kernel_rfl
theorem sz24 : szT Try.prog 24 = some 1 := by kernel_rfl
theorem ag24 : isAggT Try.prog 24 = some false := by kernel_rfl
theorem ze24 : zeroT Try.prog 24 = some (.int IntKind.i64 (0)) := by kernel_rfl
theorem in24 : Try.prog.info? 24 = some Try.t24 := by kernel_rfl
theorem sz25 : szT Try.prog 25 = some 1 := by kernel_rfl
theorem ag25 : isAggT Try.prog 25 = some false := by kernel_rfl
theorem in25 : Try.prog.info? 25 = some Try.t25 := by kernel_rfl
theorem sz26 : szT Try.prog 26 = some 1 := by kernel_rfl
theorem ag26 : isAggT Try.prog 26 = some false := by kernel_rfl
theorem ze26 : zeroT Try.prog 26 = some (.nilf) := by kernel_rfl
theorem in26 : Try.prog.info? 26 = some Try.t26 := by kernel_rfl
theorem sz27 : szT Try.prog 27 = some 1 := by kernel_rfl
theorem ag27 : isAggT Try.prog 27 = some false := by kernel_rfl
theorem ze27 : zeroT Try.prog 27 = some (.nilf) := by kernel_rfl
theorem in27 : Try.prog.info? 27 = some Try.t27 := by kernel_rfl
theorem sz28 : szT Try.prog 28 = some 1 := by kernel_rfl
theorem ag28 : isAggT Try.prog 28 = some false := by kernel_rfl
theorem in28 : Try.prog.info? 28 = some Try.t28 := by kernel_rfl
theorem sz29 : szT Try.prog 29 = some 1 := by kernel_rfl
theorem ag29 : isAggT Try.prog 29 = some false := by kernel_rfl
theorem ze29 : zeroT Try.prog 29 = some (.nilf) := by kernel_rfl
theorem in29 : Try.prog.info? 29 = some Try.t29 := by kernel_rfl
theorem sz30 : szT Try.prog 30 = some 1 := by kernel_rfl
theorem ag30 : isAggT Try.prog 30 = some false := by kernel_rfl
theorem ze30 : zeroT Try.prog 30 = some (.nilf) := by kernel_rfl
theorem in30 : Try.prog.info? 30 = some Try.t30 := by kernel_rfl
theorem sz31 : szT Try.prog 31 = some 1 := by kernel_rfl
theorem ag31 : isAggT Try.prog 31 = some false := by kernel_rfl
theorem ze31 : zeroT Try.prog 31 = some (.nilf) := by kernel_rfl
theorem in31 : Try.prog.info? 31 = some Try.t31 := by kernel_rfl
theorem sz32 : szT Try.prog 32 = some 1 := by kernel_rfl
theorem ag32 : isAggT Try.prog 32 = some false := by kernel_rfl
theorem in32 : Try.prog.info? 32 = some Try.t32 := by kernel_rfl
theorem sz33 : szT Try.prog 33 = some 1 := by kernel_rfl
theorem ag33 : isAggT Try.prog 33 = some false := by kernel_rfl
theorem ze33 : zeroT Try.prog 33 = some (.nilm) := by kernel_rfl
theorem mp33 : mapT Try.prog 33 = some (3, 9) := by kernel_rfl
theorem in33 : Try.prog.info? 33 = some Try.t33 := by kernel_rfl
theorem sz34 : szT Try.prog 34 = some 1 := by kernel_rfl
theorem ag34 : isAggT Try.prog 34 = some false := by kernel_rfl
theorem ze34 : zeroT Try.prog 34 = some (.nilf) := by kernel_rfl
theorem in34 : Try.prog.info? 34 = some Try.t34 := by kernel_rfl
theorem sz35 : szT Try.prog 35 = some 1 := by kernel_rfl
theorem ag35 : isAggT Try.prog 35 = some false := by kernel_rfl
theorem ze35 : zeroT Try.prog 35 = some (.nilf) := by kernel_rfl
theorem in35 : Try.prog.info? 35 = some Try.t35 := by kernel_rfl
theorem sz36 : szT Try.prog 36 = some 1 := by kernel_rfl
theorem ag36 : isAggT Try.prog 36 = some false := by kernel_rfl
theorem ze36 : zeroT Try.prog 36 = some (.nils) := by kernel_rfl
theorem el36 : elemT Try.prog 36 = some 9 := by kernel_rfl
theorem in36 : Try.prog.info? 36 = some Try.t36 := by kernel_rfl
theorem sz37 : szT Try.prog 37 = some 1 := by kernel_rfl
theorem ag37 : isAggT Try.prog 37 = some false := by kernel_rfl
theorem ze37 : zeroT Try.prog 37 = some (.nilf) := by kernel_rfl
theorem in37 : Try.prog.info? 37 = some Try.t37 := by kernel_rfl
theorem sz38 : szT Try.prog 38 = some 1 := by kernel_rfl
theorem ag38 : isAggT Try.prog 38 = some false := by kernel_rfl
theorem ze38 : zeroT Try.prog 38 = some (.nilf) := by kernel_rfl
theorem in38 : Try.prog.info? 38 = some Try.t38 := by kernel_rfl
theorem sz39 : szT Try.prog 39 = some 1 := by kernel_rfl
theorem ag39 : isAggT Try.prog 39 = some false := by kernel_rfl
theorem ze39 : zeroT Try.prog 39 = some (.nils) := by kernel_rfl
theorem el39 : elemT Try.prog 39 = some 5 := by kernel_rfl
theorem in39 : Try.prog.info? 39 = some Try.t39 := by kernel_rfl
theorem sz40 : szT Try.prog 40 = some 1 := by kernel_rfl
theorem ag40 : isAggT Try.prog 40 = some false := by kernel_rfl
theorem ze40 : zeroT Try.prog 40 = some (.nilf) := by kernel_rfl
theorem in40 : Try.prog.info? 40 = some Try.t40 := by kernel_rfl
theorem sz41 : szT Try.prog 41 = some 1 := by kernel_rfl
theorem ag41 : isAggT Try.prog 41 = some false := by kernel_rfl
theorem ze41 : zeroT Try.prog 41 = some (.nilf) := by kernel_rfl
theorem in41 : Try.prog.info? 41 = some Try.t41 := by kernel_rfl
theorem sz42 : szT Try.prog 42 = some 1 := by kernel_rfl
theorem ag42 : isAggT Try.prog 42 = some false := by kernel_rfl
theorem in42 : Try.prog.info? 42 = some Try.t42 := by kernel_rfl
theorem sz43 : szT Try.prog 43 = some 1 := by kernel_rfl
theorem ag43 : isAggT Try.prog 43 = some false := by kernel_rfl
theorem ze43 : zeroT Try.prog 43 = some (.nilf) := by kernel_rfl
theorem in43 : Try.prog.info? 43 = some Try.t43 := by kernel_rfl
theorem sz44 : szT Try.prog 44 = some 1 := by kernel_rfl
theorem ag44 : isAggT Try.prog 44 = some false := by kernel_rfl
theorem ze44 : zeroT Try.prog 44 = some (.nilf) := by kernel_rfl
theorem in44 : Try.prog.info? 44 = some Try.t44 := by kernel_rfl
theorem sz45 : szT Try.prog 45 = some 1 := by kernel_rfl
theorem ag45 : isAggT Try.prog 45 = some false := by kernel_rfl
theorem ze45 : zeroT Try.prog 45 = some (.nilf) := by kernel_rfl
theorem in45 : Try.prog.info? 45 = some Try.t45 := by kernel_rfl
theorem sz46 : szT Try.prog 46 = some 1 := by kernel_rfl
theorem ag46 : isAggT Try.prog 46 = some false := by kernel_rfl
theorem ze46 : zeroT Try.prog 46 = some (.nils) := by kernel_rfl
theorem el46 : elemT Try.prog 46 = some 3 := by kernel_rfl
theorem in46 : Try.prog.info? 46 = some Try.t46 := by kernel_rfl
theorem sz47 : szT Try.prog 47 = some 1 := by kernel_rfl
theorem ag47 : isAggT Try.prog 47 = some false := by kernel_rfl
theorem in47 : Try.prog.info? 47 = some Try.t47 := by kernel_rfl
theorem sz48 : szT Try.prog 48 = some 1 := by kernel_rfl
theorem ag48 : isAggT Try.prog 48 = some false := by kernel_rfl
theorem ze48 : zeroT Try.prog 48 = some (.nilf) := by kernel_rfl
theorem in48 : Try.prog.info? 48 = some Try.t48 := by kernel_rfl
theorem sz49 : szT Try.prog 49 = some 1 := by kernel_rfl
theorem ag49 : isAggT Try.prog 49 = some false := by kernel_rfl
theorem ze49 : zeroT Try.prog 49 = some (.nils) := by kernel_rfl
theorem el49 : elemT Try.prog 49 = some 23 := by kernel_rfl
theorem in49 : Try.prog.info? 49 = some Try.t49 := by kernel_rfl
theorem sz50 : szT Try.prog 50 = some 2 := by kernel_rfl
theorem ag50 : isAggT Try.prog 50 = some true := by kernel_rfl
theorem ze50 : zeroT Try.prog 50 = some (.agg [.int IntKind.i64 (0), .nils]) := by kernel_rfl
theorem fi50x0 : fieldT Try.prog 50 0 = some (3, 0) := by kernel_rfl
theorem pl50x0 : placeA Try.prog 50 0 = some (0, 1) := by kernel_rfl
theorem fi50x1 : fieldT Try.prog 50 1 = some (49, 1) := by kernel_rfl
theorem pl50x1 : placeA Try.prog 50 1 = some (1, 1) := by kernel_rfl
theorem po50 : placesOk Try.prog 50 = true := by kernel_rfl
theorem in50 : Try.prog.info? 50 = some Try.t50 := by kernel_rfl
theorem sz51 : szT Try.prog 51 = some 2 := by kernel_rfl
theorem ag51 : isAggT Try.prog 51 = some true := by kernel_rfl
theorem ze51 : zeroT Try.prog 51 = some (.agg [.int IntKind.i64 (0), .nils]) := by kernel_rfl
theorem fi51x0 : fieldT Try.prog 51 0 = some (3, 0) := by kernel_rfl
theorem pl51x0 : placeA Try.prog 51 0 = some (0, 1) := by kernel_rfl
theorem fi51x1 : fieldT Try.prog 51 1 = some (49, 1) := by kernel_rfl
theorem pl51x1 : placeA Try.prog 51 1 = some (1, 1) := by kernel_rfl
theorem po51 : placesOk Try.prog 51 = true := by kernel_rfl
theorem in51 : Try.prog.info? 51 = some Try.t51 := by kernel_rfl
theorem sz52 : szT Try.prog 52 = some 1 := by kernel_rfl
theorem ag52 : isAggT Try.prog 52 = some false := by kernel_rfl
theorem ze52 : zeroT Try.prog 52 = some (.nilf) := by kernel_rfl
theorem in52 : Try.prog.info? 52 = some Try.t52 := by kernel_rfl
theorem sz53 : szT Try.prog 53 = some 1 := by kernel_rfl
theorem ag53 : isAggT Try.prog 53 = some false := by kernel_rfl
theorem ze53 : zeroT Try.prog 53 = some (.nilp) := by kernel_rfl
theorem in53 : Try.prog.info? 53 = some Try.t53 := by kernel_rfl
theorem sz54 : szT Try.prog 54 = some 2 := by kernel_rfl
theorem ag54 : isAggT Try.prog 54 = some true := by kernel_rfl
theorem ze54 : zeroT Try.prog 54 = some (.agg [.nilp, .nils]) := by kernel_rfl
theorem fi54x0 : fieldT Try.prog 54 0 = some (53, 0) := by kernel_rfl
theorem pl54x0 : placeA Try.prog 54 0 = some (0, 1) := by kernel_rfl
theorem fi54x1 : fieldT Try.prog 54 1 = some (39, 1) := by kernel_rfl
theorem pl54x1 : placeA Try.prog 54 1 = some (1, 1) := by kernel_rfl
theorem po54 : placesOk Try.prog 54 = true := by kernel_rfl
theorem in54 : Try.prog.info? 54 = some Try.t54 := by kernel_rfl
theorem sz55 : szT Try.prog 55 = some 2 := by kernel_rfl
theorem ag55 : isAggT Try.prog 55 = some true := by kernel_rfl
theorem ze55 : zeroT Try.prog 55 = some (.agg [.nilp, .nils]) := by kernel_rfl
theorem fi55x0 : fieldT Try.prog 55 0 = some (53, 0) := by kernel_rfl
theorem pl55x0 : placeA Try.prog 55 0 = some (0, 1) := by kernel_rfl
theorem fi55x1 : fieldT Try.prog 55 1 = some (39, 1) := by kernel_rfl
theorem pl55x1 : placeA Try.prog 55 1 = some (1, 1) := by kernel_rfl
theorem po55 : placesOk Try.prog 55 = true := by kernel_rfl
theorem in55 : Try.prog.info? 55 = some Try.t55 := by kernel_rfl
theorem sz56 : szT Try.prog 56 = some 1 := by kernel_rfl
theorem ag56 : isAggT Try.prog 56 = some false := by kernel_rfl
theorem ze56 : zeroT Try.prog 56 = some (.nilf) := by kernel_rfl
theorem in56 : Try.prog.info? 56 = some Try.t56 := by kernel_rfl
theorem sz57 : szT Try.prog 57 = some 1 := by kernel_rfl
theorem ag57 : isAggT Try.prog 57 = some false := by kernel_rfl
theorem ze57 : zeroT Try.prog 57 = some (.nili) := by kernel_rfl
theorem in57 : Try.prog.info? 57 = some Try.t57 := by kernel_rfl
theorem sz58 : szT Try.prog 58 = some 1 := by kernel_rfl
theorem ag58 : isAggT Try.prog 58 = some false := by kernel_rfl
theorem ze58 : zeroT Try.prog 58 = some (.nili) := by kernel_rfl
theorem in58 : Try.prog.info? 58 = some Try.t58 := by kernel_rfl
theorem sz59 : szT Try.prog 59 = some 1 := by kernel_rfl
theorem ag59 : isAggT Try.prog 59 = some false := by kernel_rfl
theorem in59 : Try.prog.info? 59 = some Try.t59 := by kernel_rfl
theorem sz60 : szT Try.prog 60 = some 1 := by kernel_rfl
theorem ag60 : isAggT Try.prog 60 = some false := by kernel_rfl
theorem ze60 : zeroT Try.prog 60 = some (.nilf) := by kernel_rfl
theorem in60 : Try.prog.info? 60 = some Try.t60 := by kernel_rfl
theorem sz61 : szT Try.prog 61 = some 1 := by kernel_rfl
theorem ag61 : isAggT Try.prog 61 = some false := by kernel_rfl
theorem ze61 : zeroT Try.prog 61 = some (.nilf) := by kernel_rfl
theorem in61 : Try.prog.info? 61 = some Try.t61 := by kernel_rfl
theorem sz62 : szT Try.prog 62 = some 1 := by kernel_rfl
theorem ag62 : isAggT Try.prog 62 = some false := by kernel_rfl
theorem ze62 : zeroT Try.prog 62 = some (.nilf) := by kernel_rfl
theorem in62 : Try.prog.info? 62 = some Try.t62 := by kernel_rfl
theorem sz63 : szT Try.prog 63 = some 1 := by kernel_rfl
theorem ag63 : isAggT Try.prog 63 = some false := by kernel_rfl
theorem ze63 : zeroT Try.prog 63 = some (.nilf) := by kernel_rfl
theorem in63 : Try.prog.info? 63 = some Try.t63 := by kernel_rfl
theorem sz64 : szT Try.prog 64 = some 1 := by kernel_rfl
theorem ag64 : isAggT Try.prog 64 = some false := by kernel_rfl
theorem ze64 : zeroT Try.prog 64 = some (.nilf) := by kernel_rfl
theorem in64 : Try.prog.info? 64 = some Try.t64 := by kernel_rfl
theorem sz65 : szT Try.prog 65 = some 1 := by kernel_rfl
theorem ag65 : isAggT Try.prog 65 = some false := by kernel_rfl
theorem ze65 : zeroT Try.prog 65 = some (.nilp) := by kernel_rfl
theorem in65 : Try.prog.info? 65 = some Try.t65 := by kernel_rfl
theorem sz66 : szT Try.prog 66 = some 1 := by kernel_rfl
theorem ag66 : isAggT Try.prog 66 = some false := by kernel_rfl
theorem ze66 : zeroT Try.prog 66 = some (.nilp) := by kernel_rfl
theorem in66 : Try.prog.info? 66 = some Try.t66 := by kernel_rfl
theorem sz67 : szT Try.prog 67 = some 1 := by kernel_rfl
theorem ag67 : isAggT Try.prog 67 = some false := by kernel_rfl
theorem ze67 : zeroT Try.prog 67 = some (.nilf) := by kernel_rfl
theorem in67 : Try.prog.info? 67 = some Try.t67 := by kernel_rfl
theorem sz68 : szT Try.prog 68 = some 1 := by kernel_rfl
theorem ag68 : isAggT Try.prog 68 = some false := by kernel_rfl
theorem ze68 : zeroT Try.prog 68 = some (.nilf) := by kernel_rfl
theorem in68 : Try.prog.info? 68 = some Try.t68 := by kernel_rfl
theorem sz69 : szT Try.prog 69 = some 1 := by kernel_rfl
theorem ag69 : isAggT Try.prog 69 = some false := by kernel_rfl
theorem ze69 : zeroT Try.prog 69 = some (.nilf) := by kernel_rfl
theorem in69 : Try.prog.info? 69 = some Try.t69 := by kernel_rfl
theorem sz70 : szT Try.prog 70 = some 1 := by kernel_rfl
theorem ag70 : isAggT Try.prog 70 = some false := by kernel_rfl
theorem ze70 : zeroT Try.prog 70 = some (.nilf) := by kernel_rfl
theorem in70 : Try.prog.info? 70 = some Try.t70 := by kernel_rfl
theorem sz71 : szT Try.prog 71 = some 5 := by kernel_rfl
theorem ag71 : isAggT Try.prog 71 = some true := by kernel_rfl
theorem ze71 : zeroT Try.prog 71 = some (.agg [.int IntKind.u8 (0), .int IntKind.u8 (0), .nilf, .nilf, .nilf]) := by kernel_rfl
theorem fi71x0 : fieldT Try.prog 71 0 = some (5, 0) := by kernel_rfl
theorem pl71x0 : placeA Try.prog 71 0 = some (0, 1) := by kernel_rfl
theorem fi71x1 : fieldT Try.prog 71 1 = some (5, 1) := by kernel_rfl
theorem pl71x1 : placeA Try.prog 71 1 = some (1, 1) := by kernel_rfl
theorem fi71x2 : fieldT Try.prog 71 2 = some (27, 2) := by kernel_rfl
theorem pl71x2 : placeA Try.prog 71 2 = some (2, 1) := by kernel_rfl
theorem fi71x3 : fieldT Try.prog 71 3 = some (69, 3) := by kernel_rfl
theorem pl71x3 : placeA Try.prog 71 3 = some (3, 1) := by kernel_rfl
theorem fi71x4 : fieldT Try.prog 71 4 = some (70, 4) := by kernel_rfl
theorem pl71x4 : placeA Try.prog 71 4 = some (4, 1) := by kernel_rfl
theorem po71 : placesOk Try.prog 71 = true := by kernel_rfl
theorem in71 : Try.prog.info? 71 = some Try.t71 := by kernel_rfl
theorem sz72 : szT Try.prog 72 = some 5 := by kernel_rfl
theorem ag72 : isAggT Try.prog 72 = some true := by kernel_rfl
theorem ze72 : zeroT Try.prog 72 = some (.agg [.int IntKind.u8 (0), .int IntKind.u8 (0), .nilf, .nilf, .nilf]) := by kernel_rfl
theorem fi72x0 : fieldT Try.prog 72 0 = some (5, 0) := by kernel_rfl
theorem pl72x0 : placeA Try.prog 72 0 = some (0, 1) := by kernel_rfl
theorem fi72x1 : fieldT Try.prog 72 1 = some (5, 1) := by kernel_rfl
theorem pl72x1 : placeA Try.prog 72 1 = some (1, 1) := by kernel_rfl
theorem fi72x2 : fieldT Try.prog 72 2 = some (27, 2) := by kernel_rfl
theorem pl72x2 : placeA Try.prog 72 2 = some (2, 1) := by kernel_rfl
theorem fi72x3 : fieldT Try.prog 72 3 = some (69, 3) := by kernel_rfl
theorem pl72x3 : placeA Try.prog 72 3 = some (3, 1) := by kernel_rfl
theorem fi72x4 : fieldT Try.prog 72 4 = some (70, 4) := by kernel_rfl
theorem pl72x4 : placeA Try.prog 72 4 = some (4, 1) := by kernel_rfl
theorem po72 : placesOk Try.prog 72 = true := by kernel_rfl
theorem in72 : Try.prog.info? 72 = some Try.t72 := by kernel_rfl
theorem sz73 : szT Try.prog 73 = some 20 := by kernel_rfl
theorem ag73 : isAggT Try.prog 73 = some true := by kernel_rfl
theorem ze73 : zeroT Try.prog 73 = some (.agg [.int IntKind.u8 (0), .int IntKind.u8 (0), .nilf, .nilf, .nilf, .int IntKind.u8 (0), .int IntKind.u8 (0), .nilf, .nilf, .nilf, .int IntKind.u8 (0), .int IntKind.u8 (0), .nilf, .nilf, .nilf, .int IntKind.u8 (0), .int IntKind.u8 (0), .nilf, .nilf, .nilf]) := by kernel_rfl
theorem pl73x0 : placeA Try.prog 73 0 = some (0, 5) := by kernel_rfl
theorem pl73x1 : placeA Try.prog 73 1 = some (5, 5) := by kernel_rfl
theorem pl73x2 : placeA Try.prog 73 2 = some (10, 5) := by kernel_rfl
theorem pl73x3 : placeA Try.prog 73 3 = some (15, 5) := by kernel_rfl
theorem po73 : placesOk Try.prog 73 = true := by kernel_rfl
theorem in73 : Try.prog.info? 73 = some Try.t73 := by kernel_rfl
theorem sz74 : szT Try.prog 74 = some 1 := by kernel_rfl
theorem ag74 : isAggT Try.prog 74 = some false := by kernel_rfl
theorem ze74 : zeroT Try.prog 74 = some (.nilf) := by kernel_rfl
theorem in74 : Try.prog.info? 74 = some Try.t74 := by kernel_rfl
theorem sz75 : szT Try.prog 75 = some 1 := by kernel_rfl
theorem ag75 : isAggT Try.prog 75 = some false := by kernel_rfl
theorem ze75 : zeroT Try.prog 75 = some (.nilf) := by kernel_rfl
theorem in75 : Try.prog.info? 75 = some Try.t75 := by kernel_rfl
theorem sz76 : szT Try.prog 76 = some 1 := by kernel_rfl
theorem ag76 : isAggT Try.prog 76 = some false := by kernel_rfl
theorem ze76 : zeroT Try.prog 76 = some (.nils) := by kernel_rfl
theorem el76 : elemT Try.prog 76 = some 77 := by kernel_rfl
theorem in76 : Try.prog.info? 76 = some Try.t76 := by kernel_rfl
theorem sz77 : szT Try.prog 77 = some 1 := by kernel_rfl
theorem ag77 : isAggT Try.prog 77 = some false := by kernel_rfl
theorem ze77 : zeroT Try.prog 77 = some (.nilp) := by kernel_rfl
theorem in77 : Try.prog.info? 77 = some Try.t77 := by kernel_rfl
theorem sz78 : szT Try.prog 78 = some 1 := by kernel_rfl
theorem ag78 : isAggT Try.prog 78 = some false := by kernel_rfl
theorem ze78 : zeroT Try.prog 78 = some (.nilp) := by kernel_rfl
theorem in78 : Try.prog.info? 78 = some Try.t78 := by kernel_rfl
theorem sz79 : szT Try.prog 79 = some 1 := by kernel_rfl
theorem ag79 : isAggT Try.prog 79 = some false := by kernel_rfl
theorem ze79 : zeroT Try.prog 79 = some (.nilf) := by kernel_rfl
theorem in79 : Try.prog.info? 79 = some Try.t79 := by kernel_rfl
theorem sz80 : szT Try.prog 80 = some 1 := by kernel_rfl
theorem ag80 : isAggT Try.prog 80 = some false := by kernel_rfl
theorem ze80 : zeroT Try.prog 80 = some (.nilf) := by kernel_rfl
theorem in80 : Try.prog.info? 80 = some Try.t80 := by kernel_rfl
theorem sz81 : szT Try.prog 81 = some 1 := by kernel_rfl
theorem ag81 : isAggT Try.prog 81 = some false := by kernel_rfl
theorem ze81 : zeroT Try.prog 81 = some (.nilf) := by kernel_rfl
theorem in81 : Try.prog.info? 81 = some Try.t81 := by kernel_rfl
theorem sz82 : szT Try.prog 82 = some 4 := by kernel_rfl
theorem ag82 : isAggT Try.prog 82 = some true := by kernel_rfl
theorem ze82 : zeroT Try.prog 82 = some (.agg [.nilp, .nilp, .nilp, .str []]) := by kernel_rfl
theorem fi82x0 : fieldT Try.prog 82 0 = some (17, 0) := by kernel_rfl
theorem pl82x0 : placeA Try.prog 82 0 = some (0, 1) := by kernel_rfl
theorem fi82x1 : fieldT Try.prog 82 1 = some (17, 1) := by kernel_rfl
theorem pl82x1 : placeA Try.prog 82 1 = some (1, 1) := by kernel_rfl
theorem fi82x2 : fieldT Try.prog 82 2 = some (17, 2) := by kernel_rfl
theorem pl82x2 : placeA Try.prog 82 2 = some (2, 1) := by kernel_rfl
theorem fi82x3 : fieldT Try.prog 82 3 = some (9, 3) := by kernel_rfl
theorem pl82x3 : placeA Try.prog 82 3 = some (3, 1) := by kernel_rfl
theorem po82 : placesOk Try.prog 82 = true := by kernel_rfl
theorem in82 : Try.prog.info? 82 = some Try.t82 := by kernel_rfl
theorem sz83 : szT Try.prog 83 = some 4 := by kernel_rfl
theorem ag83 : isAggT Try.prog 83 = some true := by kernel_rfl
theorem ze83 : zeroT Try.prog 83 = some (.agg [.nilp, .nilp, .nilp, .str []]) := by kernel_rfl
theorem fi83x0 : fieldT Try.prog 83 0 = some (17, 0) := by kernel_rfl
theorem pl83x0 : placeA Try.prog 83 0 = some (0, 1) := by kernel_rfl
theorem fi83x1 : fieldT Try.prog 83 1 = some (17, 1) := by kernel_rfl
theorem pl83x1 : placeA Try.prog 83 1 = some (1, 1) := by kernel_rfl
theorem fi83x2 : fieldT Try.prog 83 2 = some (17, 2) := by kernel_rfl
theorem pl83x2 : placeA Try.prog 83 2 = some (2, 1) := by kernel_rfl
theorem fi83x3 : fieldT Try.prog 83 3 = some (9, 3) := by kernel_rfl
theorem pl83x3 : placeA Try.prog 83 3 = some (3, 1) := by kernel_rfl
theorem po83 : placesOk Try.prog 83 = true := by kernel_rfl
theorem in83 : Try.prog.info? 83 = some Try.t83 := by kernel_rfl
theorem sz84 : szT Try.prog 84 = some 0 := by kernel_rfl
theorem ag84 : isAggT Try.prog 84 = some true := by kernel_rfl
theorem ze84 : zeroT Try.prog 84 = some (.agg []) := by kernel_rfl
theorem po84 : placesOk Try.prog 84 = true := by kernel_rfl
theorem in84 : Try.prog.info? 84 = some Try.t84 := by kernel_rfl
theorem sz85 : szT Try.prog 85 = some 0 := by kernel_rfl
theorem ag85 : isAggT Try.prog 85 = some true := by kernel_rfl
theorem ze85 : zeroT Try.prog 85 = some (.agg []) := by kernel_rfl
theorem fi85x0 : fieldT Try.prog 85 0 = some (84, 0) := by kernel_rfl
theorem pl85x0 : placeA Try.prog 85 0 = some (0, 0) := by kernel_rfl
theorem po85 : placesOk Try.prog 85 = true := by kernel_rfl
theorem in85 : Try.prog.info? 85 = some Try.t85 := by kernel_rfl
theorem sz86 : szT Try.prog 86 = some 0 := by kernel_rfl
theorem ag86 : isAggT Try.prog 86 = some true := by kernel_rfl
theorem ze86 : zeroT Try.prog 86 = some (.agg []) := by kernel_rfl
theorem fi86x0 : fieldT Try.prog 86 0 = some (84, 0) := by kernel_rfl
theorem pl86x0 : placeA Try.prog 86 0 = some (0, 0) := by kernel_rfl
theorem po86 : placesOk Try.prog 86 = true := by kernel_rfl
theorem in86 : Try.prog.info? 86 = some Try.t86 := by kernel_rfl
theorem sz87 : szT Try.prog 87 = some 1 := by kernel_rfl
theorem ag87 : isAggT Try.prog 87 = some false := by kernel_rfl
theorem ze87 : zeroT Try.prog 87 = some (.nilf) := by kernel_rfl
theorem in87 : Try.prog.info? 87 = some Try.t87 := by kernel_rfl
theorem sz88 : szT Try.prog 88 = some 1 := by kernel_rfl
theorem ag88 : isAggT Try.prog 88 = some false := by kernel_rfl
theorem ze88 : zeroT Try.prog 88 = some (.int IntKind.u32 (0)) := by kernel_rfl
theorem in88 : Try.prog.info? 88 = some Try.t88 := by kernel_rfl
theorem sz89 : szT Try.prog 89 = some 1 := by kernel_rfl
theorem ag89 : isAggT Try.prog 89 = some false := by kernel_rfl
theorem ze89 : zeroT Try.prog 89 = some (.int IntKind.u8 (0)) := by kernel_rfl
theorem in89 : Try.prog.info? 89 = some Try.t89 := by kernel_rfl
theorem sz90 : szT Try.prog 90 = some 1 := by kernel_rfl
theorem ag90 : isAggT Try.prog 90 = some false := by kernel_rfl
theorem ze90 : zeroT Try.prog 90 = some (.int IntKind.u8 (0)) := by kernel_rfl
theorem in90 : Try.prog.info? 90 = some Try.t90 := by kernel_rfl
theorem sz91 : szT Try.prog 91 = some 1 := by kernel_rfl
theorem ag91 : isAggT Try.prog 91 = some false := by kernel_rfl
theorem ze91 : zeroT Try.prog 91 = some (.nilf) := by kernel_rfl
theorem in91 : Try.prog.info? 91 = some Try.t91 := by kernel_rfl
theorem sz92 : szT Try.prog 92 = some 1 := by kernel_rfl
theorem ag92 : isAggT Try.prog 92 = some false := by kernel_rfl
theorem ze92 : zeroT Try.prog 92 = some (.int IntKind.i32 (0)) := by kernel_rfl
theorem in92 : Try.prog.info? 92 = some Try.t92 := by kernel_rfl
theorem sz93 : szT Try.prog 93 = some 1 := by kernel_rfl
theorem ag93 : isAggT Try.prog 93 = some false := by kernel_rfl
theorem ze93 : zeroT Try.prog 93 = some (.int IntKind.i32 (0)) := by kernel_rfl
theorem in93 : Try.prog.info? 93 = some Try.t93 := by kernel_rfl
theorem sz94 : szT Try.prog 94 = some 11 := by kernel_rfl
theorem ag94 : isAggT Try.prog 94 = some true := by kernel_rfl
theorem ze94 : zeroT Try.prog 94 = some (.agg [.int IntKind.u64 (0), .int IntKind.u64 (0), .int IntKind.u32 (0), .int IntKind.u8 (0), .int IntKind.u8 (0), .int IntKind.u8 (0), .int IntKind.u8 (0), .nilf, .nilp, .int IntKind.i32 (0), .int IntKind.i32 (0)]) := by kernel_rfl
theorem fi94x0 : fieldT Try.prog 94 0 = some (12, 0) := by kernel_rfl
theorem pl94x0 : placeA Try.prog 94 0 = some (0, 1) := by kernel_rfl
theorem fi94x1 : fieldT Try.prog 94 1 = some (12, 1) := by kernel_rfl
theorem pl94x1 : placeA Try.prog 94 1 = some (1, 1) := by kernel_rfl
theorem fi94x2 : fieldT Try.prog 94 2 = some (88, 2) := by kernel_rfl
theorem pl94x2 : placeA Try.prog 94 2 = some (2, 1) := by kernel_rfl
theorem fi94x3 : fieldT Try.prog 94 3 = some (89, 3) := by kernel_rfl
theorem pl94x3 : placeA Try.prog 94 3 = some (3, 1) := by kernel_rfl
theorem fi94x4 : fieldT Try.prog 94 4 = some (5, 4) := by kernel_rfl
theorem pl94x4 : placeA Try.prog 94 4 = some (4, 1) := by kernel_rfl
theorem fi94x5 : fieldT Try.prog 94 5 = some (5, 5) := by kernel_rfl
theorem pl94x5 : placeA Try.prog 94 5 = some (5, 1) := by kernel_rfl
theorem fi94x6 : fieldT Try.prog 94 6 = some (90, 6) := by kernel_rfl
theorem pl94x6 : placeA Try.prog 94 6 = some (6, 1) := by kernel_rfl
theorem fi94x7 : fieldT Try.prog 94 7 = some (91, 7) := by kernel_rfl
theorem pl94x7 : placeA Try.prog 94 7 = some (7, 1) := by kernel_rfl
theorem fi94x8 : fieldT Try.prog 94 8 = some (66, 8) := by kernel_rfl
theorem pl94x8 : placeA Try.prog 94 8 = some (8, 1) := by kernel_rfl
theorem fi94x9 : fieldT Try.prog 94 9 = some (92, 9) := by kernel_rfl
theorem pl94x9 : placeA Try.prog 94 9 = some (9, 1) := by kernel_rfl
theorem fi94x10 : fieldT Try.prog 94 10 = some (93, 10) := by kernel_rfl
theorem pl94x10 : placeA Try.prog 94 10 = some (10, 1) := by kernel_rfl
theorem po94 : placesOk Try.prog 94 = true := by kernel_rfl
theorem in94 : Try.prog.info? 94 = some Try.t94 := by kernel_rfl
theorem sz95 : szT Try.prog 95 = some 11 := by kernel_rfl
theorem ag95 : isAggT Try.prog 95 = some true := by kernel_rfl
theorem ze95 : zeroT Try.prog 95 = some (.agg [.int IntKind.u64 (0), .int IntKind.u64 (0), .int IntKind.u32 (0), .int IntKind.u8 (0), .int IntKind.u8 (0), .int IntKind.u8 (0), .int IntKind.u8 (0), .nilf, .nilp, .int IntKind.i32 (0), .int IntKind.i32 (0)]) := by kernel_rfl
theorem fi95x0 : fieldT Try.prog 95 0 = some (12, 0) := by kernel_rfl
theorem pl95x0 : placeA Try.prog 95 0 = some (0, 1) := by kernel_rfl
theorem fi95x1 : fieldT Try.prog 95 1 = some (12, 1) := by kernel_rfl
theorem pl95x1 : placeA Try.prog 95 1 = some (1, 1) := by kernel_rfl
theorem fi95x2 : fieldT Try.prog 95 2 = some (88, 2) := by kernel_rfl
theorem pl95x2 : placeA Try.prog 95 2 = some (2, 1) := by kernel_rfl
theorem fi95x3 : fieldT Try.prog 95 3 = some (89, 3) := by kernel_rfl
theorem pl95x3 : placeA Try.prog 95 3 = some (3, 1) := by kernel_rfl
theorem fi95x4 : fieldT Try.prog 95 4 = some (5, 4) := by kernel_rfl
theorem pl95x4 : placeA Try.prog 95 4 = some (4, 1) := by kernel_rfl
theorem fi95x5 : fieldT Try.prog 95 5 = some (5, 5) := by kernel_rfl
theorem pl95x5 : placeA Try.prog 95 5 = some (5, 1) := by kernel_rfl
theorem fi95x6 : fieldT Try.prog 95 6 = some (90, 6) := by kernel_rfl
theorem pl95x6 : placeA Try.prog 95 6 = some (6, 1) := by kernel_rfl
theorem fi95x7 : fieldT Try.prog 95 7 = some (91, 7) := by kernel_rfl
theorem pl95x7 : placeA Try.prog 95 7 = some (7, 1) := by kernel_rfl
theorem fi95x8 : fieldT Try.prog 95 8 = some (66, 8) := by kernel_rfl
theorem pl95x8 : placeA Try.prog 95 8 = some (8, 1) := by kernel_rfl
theorem fi95x9 : fieldT Try.prog 95 9 = some (92, 9) := by kernel_rfl
theorem pl95x9 : placeA Try.prog 95 9 = some (9, 1) := by kernel_rfl
theorem fi95x10 : fieldT Try.prog 95 10 = some (93, 10) := by kernel_rfl
theorem pl95x10 : placeA Try.prog 95 10 = some (10, 1) := by kernel_rfl
theorem po95 : placesOk Try.prog 95 = true := by kernel_rfl
theorem in95 : Try.prog.info? 95 = some Try.t95 := by kernel_rfl
def ch3x3 : List Nat := []
def pp3x3 : Plan := .op 0 <| .op 1 <| .op 2 <| .op 3 <| .op 4 <| .op 5 <| .op 6 <| .op 7 <| .op 8 <| .op 9 <| .op 10 <| .op 11 <| .op 12 <| .op 13 <| .op 14 <| .done
def ch4x3 : List Nat := [0]
def pp4x3 : Plan := .op 1 <| .op 2 <| .step 0 [2] (.op 3 <| .op 4 <| .op 5 <| .op 6 <| .op 7 <| .op 8 <| .done) (.done)
def ch4x10 : List Nat := [12]
def pp4x10 : Plan := .op 0 <| .op 1 <| .op 2 <| .op 3 <| .op 4 <| .op 5 <| .op 6 <| .op 7 <| .op 8 <| .op 9 <| .op 10 <| .op 11 <| .step 12 [] (.done) (.done)
def ch4x12 : List Nat := [12]
def pp4x12 : Plan := .op 0 <| .op 1 <| .op 2 <| .op 3 <| .op 4 <| .op 5 <| .op 6 <| .op 7 <| .op 8 <| .op 9 <| .op 10 <| .op 11 <| .step 12 [] (.done) (.done)
def ch5x7 : List Nat := [5]
def pp5x7 : Plan := .op 0 <| .op 1 <| .op 2 <| .op 3 <| .op 4 <| .op 7 <| .op 8 <| .op 9 <| .step 5 [1, 3, 8, 9] (.op 6 <| .op 10 <| .op 11 <| .done) (.done)
def ch5x9 : List Nat := [12]
def pp5x9 : Plan := .op 0 <| .op 1 <| .op 2 <| .op 3 <| .op 4 <| .op 5 <| .op 6 <| .op 7 <| .op 8 <| .op 9 <| .op 10 <| .op 11 <| .step 12 [1, 5, 9] (.op 13 <| .op 14 <| .done) (.done)
def ch8x5 : List Nat := []
def pp8x5 : Plan := .op 0 <| .op 1 <| .op 2 <| .op 3 <| .op 4 <| .op 5 <| .op 6 <| .op 7 <| .op 8 <| .op 9 <| .op 10 <| .op 11 <| .done
def ch8x22 : List Nat := [9, 11]
def pp8x22 : Plan := .op 0 <| .op 1 <| .op 2 <| .op 3 <| .op 4 <| .op 5 <| .op 6 <| .op 7 <| .op 8 <| .step 9 [6] (.op 10 <| .step 11 [] (.done) (.done)) (.done)
def ch8x26 : List Nat := [8, 10]
def pp8x26 : Plan := .op 0 <| .op 1 <| .op 2 <| .op 3 <| .op 4 <| .op 5 <| .op 6 <| .op 7 <| .step 8 [5] (.op 9 <| .step 10 [] (.done) (.done)) (.done)
def ch9x7 : List Nat := []
def pp9x7 : Plan := .op 0 <| .op 1 <| .op 2 <| .op 3 <| .op 4 <| .done
def ch9x14 : List Nat := [11]
def pp9x14 : Plan := .op 0 <| .op 1 <| .op 2 <| .op 3 <| .op 4 <| .op 5 <| .op 6 <| .op 7 <| .op 8 <| .op 9 <| .op 10 <| .step 11 [] (.done) (.done)
def ch9x16 : List Nat := [16, 18]
def pp9x16 : Plan := .op 0 <| .op 1 <| .op 2 <| .op 3 <| .op 4 <| .op 5 <| .op 6 <| .op 7 <| .op 8 <| .op 9 <| .op 10 <| .op 11 <| .op 12 <| .op 13 <| .op 14 <| .op 15 <| .step 16 [7, 12] (.op 17 <| .step 18 [] (.done) (.done)) (.done)
def ch9x18 : List Nat := [15, 17]
def pp9x18 : Plan := .op 0 <| .op 1 <| .op 2 <| .op 3 <| .op 4 <| .op 5 <| .op 6 <| .op 7 <| .op 8 <| .op 9 <| .op 10 <| .op 11 <| .op 12 <| .op 13 <| .op 14 <| .step 15 [4, 7, 9] (.op 16 <| .step 17 [] (.done) (.done)) (.done)
def ch13x1 : List Nat := []
def pp13x1 : Plan := .op 0 <| .op 1 <| .op 2 <| .op 3 <| .op 4 <| .op 5 <| .op 6 <| .op 7 <| .op 8 <| .op 9 <| .op 10 <| .op 11 <| .op 12 <| .op 13 <| .op 14 <| .op 15 <| .op 16 <| .op 17 <| .done
def ch24x10 : List Nat := [6, 7, 8]
def pp24x10 : Plan := .op 0 <| .op 1 <| .op 2 <| .op 3 <| .op 4 <| .op 5 <| .step 6 [] (.step 7 [2] (.step 8 [] (.done) (.done)) (.done)) (.done)
def ch27x3 : List Nat := []
def pp27x3 : Plan := .op 0 <| .op 1 <| .op 2 <| .op 3 <| .op 4 <| .op 5 <| .op 6 <| .op 7 <| .op 8 <| .op 9 <| .op 10 <| .op 11 <| .op 12 <| .done
def ch29x1 : List Nat := [4, 10]
def pp29x1 : Plan := .op 0 <| .op 1 <| .op 2 <| .op 3 <| .op 5 <| .op 6 <| .op 7 <| .op 8 <| .op 9 <| .step 4 [8, 9] (.step 10 [3, 8] (.op 11 <| .done) (.done)) (.done)
def ch30x3 : List Nat := [7]
def pp30x3 : Plan := .op 0 <| .op 1 <| .op 2 <| .op 3 <| .op 4 <| .op 5 <| .op 6 <| .step 7 [2, 5] (.op 8 <| .op 9 <| .op 10 <| .done) (.done)
def ch34x14 : List Nat := [5, 11, 14]
def pp34x14 : Plan := .op 0 <| .op 1 <| .op 2 <| .op 3 <| .op 4 <| .step 5 [] (.op 6 <| .op 7 <| .op 8 <| .op 9 <| .op 10 <| .op 12 <| .op 13 <| .step 11 [1, 4, 12, 13] (.step 14 [1, 4, 7, 10] (.op 15 <| .op 16 <| .op 17 <| .done) (.done)) (.done)) (.done)
def ch36x0 : List Nat := [8]
def pp36x0 : Plan := .op 0 <| .op 1 <| .op 2 <| .op 3 <| .op 4 <| .op 5 <| .op 6 <| .op 7 <| .op 9 <| .op 10 <| .op 11 <| .op 12 <| .op 13 <| .step 8 [3, 4, 12, 13] (.op 14 <| .op 15 <| .done) (.done)
def ch55x1 : List Nat := [8, 11]
def pp55x1 : Plan := .op 0 <| .op 1 <| .op 2 <| .op 3 <| .op 4 <| .op 5 <| .op 6 <| .op 7 <| .step 8 [5] (.op 9 <| .op 10 <| .step 11 [] (.done) (.done)) (.done)
def ch56x1 : List Nat := [6]
def pp56x1 : Plan := .op 0 <| .op 1 <| .op 2 <| .op 3 <| .op 4 <| .op 5 <| .step 6 [] (.op 7 <| .done) (.done)
def ch58x1 : List Nat := [8, 11]
def pp58x1 : Plan := .op 0 <| .op 1 <| .op 2 <| .op 3 <| .op 4 <| .op 5 <| .op 6 <| .op 7 <| .step 8 [5] (.op 9 <| .op 10 <| .step 11 [] (.done) (.done)) (.done)
def ch59x1 : List Nat := [6]
def pp59x1 : Plan := .op 0 <| .op 1 <| .op 2 <| .op 3 <| .op 4 <| .op 5 <| .step 6 [] (.op 7 <| .done) (.done)
end Go.Proofs.Ytnnbhfoimaodhaa
