/- Closed facts: what the walk asks of the program's table of types, and of its functions. No conditions. -/
import Derived.Test.YthpfjigkhbabnaaEngN
import Derived.Test.YthpfjigkhbabnaaProg
import Derived.KernelRfl
namespace Go.Proofs.Ythpfjigkhbabnaa.E
open Go
theorem ag2 : tyAgg Try.prog 2 = some false := by kernel_rfl
theorem sz2 : tySz Try.prog 2 = some 1 := by kernel_rfl
theorem by2 : tyBy Try.prog 2 = some 8 := by kernel_rfl
theorem un2 : (Try.prog.underlying 2).isSome = true := by kernel_rfl
theorem ni2 : tyNoIf Try.prog 2 = true := by kernel_rfl
theorem in2 : tyInt Try.prog 2 = some .i64 := by kernel_rfl
theorem bo2 : tyBool Try.prog 2 = false := by kernel_rfl
theorem st2 : tyStr Try.prog 2 = false := by kernel_rfl
theorem ze2 : tyZ Try.prog 2 = some [.val (.int .i64 0)] := by kernel_rfl
theorem ag3 : tyAgg Try.prog 3 = some false := by kernel_rfl
theorem sz3 : tySz Try.prog 3 = some 1 := by kernel_rfl
theorem by3 : tyBy Try.prog 3 = some 8 := by kernel_rfl
theorem un3 : (Try.prog.underlying 3).isSome = true := by kernel_rfl
theorem ni3 : tyNoIf Try.prog 3 = true := by kernel_rfl
theorem in3 : tyInt Try.prog 3 = some .i64 := by kernel_rfl
theorem bo3 : tyBool Try.prog 3 = false := by kernel_rfl
theorem st3 : tyStr Try.prog 3 = false := by kernel_rfl
theorem ze3 : tyZ Try.prog 3 = some [.val (.int .i64 0)] := by kernel_rfl
theorem ag4 : tyAgg Try.prog 4 = some false := by kernel_rfl
theorem sz4 : tySz Try.prog 4 = some 1 := by kernel_rfl
theorem by4 : tyBy Try.prog 4 = some 1 := by kernel_rfl
theorem un4 : (Try.prog.underlying 4).isSome = true := by kernel_rfl
theorem ni4 : tyNoIf Try.prog 4 = true := by kernel_rfl
theorem bo4 : tyBool Try.prog 4 = true := by kernel_rfl
theorem st4 : tyStr Try.prog 4 = false := by kernel_rfl
theorem ze4 : tyZ Try.prog 4 = some [.val (.bool false)] := by kernel_rfl
theorem ag5 : tyAgg Try.prog 5 = some false := by kernel_rfl
theorem sz5 : tySz Try.prog 5 = some 1 := by kernel_rfl
theorem by5 : tyBy Try.prog 5 = some 1 := by kernel_rfl
theorem un5 : (Try.prog.underlying 5).isSome = true := by kernel_rfl
theorem ni5 : tyNoIf Try.prog 5 = true := by kernel_rfl
theorem in5 : tyInt Try.prog 5 = some .u8 := by kernel_rfl
theorem bo5 : tyBool Try.prog 5 = false := by kernel_rfl
theorem st5 : tyStr Try.prog 5 = false := by kernel_rfl
theorem ze5 : tyZ Try.prog 5 = some [.val (.int .u8 0)] := by kernel_rfl
theorem ag6 : tyAgg Try.prog 6 = some false := by kernel_rfl
theorem sz6 : tySz Try.prog 6 = some 1 := by kernel_rfl
theorem by6 : tyBy Try.prog 6 = some 1 := by kernel_rfl
theorem un6 : (Try.prog.underlying 6).isSome = true := by kernel_rfl
theorem ni6 : tyNoIf Try.prog 6 = true := by kernel_rfl
theorem in6 : tyInt Try.prog 6 = some .u8 := by kernel_rfl
theorem bo6 : tyBool Try.prog 6 = false := by kernel_rfl
theorem st6 : tyStr Try.prog 6 = false := by kernel_rfl
theorem ze6 : tyZ Try.prog 6 = some [.val (.int .u8 0)] := by kernel_rfl
theorem ag7 : tyAgg Try.prog 7 = some true := by kernel_rfl
theorem sz7 : tySz Try.prog 7 = some 4 := by kernel_rfl
theorem by7 : tyBy Try.prog 7 = some 24 := by kernel_rfl
theorem un7 : (Try.prog.underlying 7).isSome = true := by kernel_rfl
theorem ni7 : tyNoIf Try.prog 7 = true := by kernel_rfl
theorem bo7 : tyBool Try.prog 7 = false := by kernel_rfl
theorem st7 : tyStr Try.prog 7 = false := by kernel_rfl
theorem ze7 : tyZ Try.prog 7 = some [.val (.int .i64 0), .val (.int .i64 0), .val (.bool false), .val (.int .u8 0)] := by kernel_rfl
theorem fi7 : tyF Try.prog 7 = some [(0, 1), (1, 1), (2, 1), (3, 1)] := by kernel_rfl
theorem fa7_0 : tyFA Try.prog 7 0 = some 0 := by kernel_rfl
theorem ft7_0 : tyFT Try.prog 7 0 = some (0, 2) := by kernel_rfl
theorem fa7_1 : tyFA Try.prog 7 1 = some 1 := by kernel_rfl
theorem ft7_1 : tyFT Try.prog 7 1 = some (1, 3) := by kernel_rfl
theorem fa7_2 : tyFA Try.prog 7 2 = some 2 := by kernel_rfl
theorem ft7_2 : tyFT Try.prog 7 2 = some (2, 4) := by kernel_rfl
theorem fa7_3 : tyFA Try.prog 7 3 = some 3 := by kernel_rfl
theorem ft7_3 : tyFT Try.prog 7 3 = some (3, 6) := by kernel_rfl
theorem ag8 : tyAgg Try.prog 8 = some true := by kernel_rfl
theorem sz8 : tySz Try.prog 8 = some 4 := by kernel_rfl
theorem by8 : tyBy Try.prog 8 = some 24 := by kernel_rfl
theorem un8 : (Try.prog.underlying 8).isSome = true := by kernel_rfl
theorem ni8 : tyNoIf Try.prog 8 = true := by kernel_rfl
theorem bo8 : tyBool Try.prog 8 = false := by kernel_rfl
theorem st8 : tyStr Try.prog 8 = false := by kernel_rfl
theorem ze8 : tyZ Try.prog 8 = some [.val (.int .i64 0), .val (.int .i64 0), .val (.bool false), .val (.int .u8 0)] := by kernel_rfl
theorem fi8 : tyF Try.prog 8 = some [(0, 1), (1, 1), (2, 1), (3, 1)] := by kernel_rfl
theorem fa8_0 : tyFA Try.prog 8 0 = some 0 := by kernel_rfl
theorem ft8_0 : tyFT Try.prog 8 0 = some (0, 2) := by kernel_rfl
theorem fa8_1 : tyFA Try.prog 8 1 = some 1 := by kernel_rfl
theorem ft8_1 : tyFT Try.prog 8 1 = some (1, 3) := by kernel_rfl
theorem fa8_2 : tyFA Try.prog 8 2 = some 2 := by kernel_rfl
theorem ft8_2 : tyFT Try.prog 8 2 = some (2, 4) := by kernel_rfl
theorem fa8_3 : tyFA Try.prog 8 3 = some 3 := by kernel_rfl
theorem ft8_3 : tyFT Try.prog 8 3 = some (3, 6) := by kernel_rfl
theorem ag9 : tyAgg Try.prog 9 = some false := by kernel_rfl
theorem sz9 : tySz Try.prog 9 = some 1 := by kernel_rfl
theorem by9 : tyBy Try.prog 9 = some 16 := by kernel_rfl
theorem un9 : (Try.prog.underlying 9).isSome = true := by kernel_rfl
theorem ni9 : tyNoIf Try.prog 9 = true := by kernel_rfl
theorem bo9 : tyBool Try.prog 9 = false := by kernel_rfl
theorem st9 : tyStr Try.prog 9 = true := by kernel_rfl
theorem ze9 : tyZ Try.prog 9 = some [.val (.string ⟨#[]⟩)] := by kernel_rfl
theorem ag10 : tyAgg Try.prog 10 = some false := by kernel_rfl
theorem sz10 : tySz Try.prog 10 = some 1 := by kernel_rfl
theorem by10 : tyBy Try.prog 10 = some 16 := by kernel_rfl
theorem un10 : (Try.prog.underlying 10).isSome = true := by kernel_rfl
theorem ni10 : tyNoIf Try.prog 10 = true := by kernel_rfl
theorem bo10 : tyBool Try.prog 10 = false := by kernel_rfl
theorem st10 : tyStr Try.prog 10 = true := by kernel_rfl
theorem ze10 : tyZ Try.prog 10 = some [.val (.string ⟨#[]⟩)] := by kernel_rfl
theorem ag11 : tyAgg Try.prog 11 = some false := by kernel_rfl
theorem sz11 : tySz Try.prog 11 = some 1 := by kernel_rfl
theorem by11 : tyBy Try.prog 11 = some 16 := by kernel_rfl
theorem un11 : (Try.prog.underlying 11).isSome = true := by kernel_rfl
theorem ni11 : tyNoIf Try.prog 11 = true := by kernel_rfl
theorem bo11 : tyBool Try.prog 11 = false := by kernel_rfl
theorem st11 : tyStr Try.prog 11 = true := by kernel_rfl
theorem ze11 : tyZ Try.prog 11 = some [.val (.string ⟨#[]⟩)] := by kernel_rfl
theorem ag12 : tyAgg Try.prog 12 = some false := by kernel_rfl
theorem sz12 : tySz Try.prog 12 = some 1 := by kernel_rfl
theorem by12 : tyBy Try.prog 12 = some 8 := by kernel_rfl
theorem un12 : (Try.prog.underlying 12).isSome = true := by kernel_rfl
theorem ni12 : tyNoIf Try.prog 12 = true := by kernel_rfl
theorem in12 : tyInt Try.prog 12 = some .u64 := by kernel_rfl
theorem bo12 : tyBool Try.prog 12 = false := by kernel_rfl
theorem st12 : tyStr Try.prog 12 = false := by kernel_rfl
theorem ze12 : tyZ Try.prog 12 = some [.val (.int .u64 0)] := by kernel_rfl
theorem ag13 : tyAgg Try.prog 13 = some true := by kernel_rfl
theorem sz13 : tySz Try.prog 13 = some 2 := by kernel_rfl
theorem by13 : tyBy Try.prog 13 = some 24 := by kernel_rfl
theorem un13 : (Try.prog.underlying 13).isSome = true := by kernel_rfl
theorem ni13 : tyNoIf Try.prog 13 = true := by kernel_rfl
theorem bo13 : tyBool Try.prog 13 = false := by kernel_rfl
theorem st13 : tyStr Try.prog 13 = false := by kernel_rfl
theorem ze13 : tyZ Try.prog 13 = some [.val (.string ⟨#[]⟩), .val (.int .u64 0)] := by kernel_rfl
theorem fi13 : tyF Try.prog 13 = some [(0, 1), (1, 1)] := by kernel_rfl
theorem fa13_0 : tyFA Try.prog 13 0 = some 0 := by kernel_rfl
theorem ft13_0 : tyFT Try.prog 13 0 = some (0, 9) := by kernel_rfl
theorem fa13_1 : tyFA Try.prog 13 1 = some 1 := by kernel_rfl
theorem ft13_1 : tyFT Try.prog 13 1 = some (1, 12) := by kernel_rfl
theorem ag14 : tyAgg Try.prog 14 = some true := by kernel_rfl
theorem sz14 : tySz Try.prog 14 = some 2 := by kernel_rfl
theorem by14 : tyBy Try.prog 14 = some 24 := by kernel_rfl
theorem un14 : (Try.prog.underlying 14).isSome = true := by kernel_rfl
theorem ni14 : tyNoIf Try.prog 14 = true := by kernel_rfl
theorem bo14 : tyBool Try.prog 14 = false := by kernel_rfl
theorem st14 : tyStr Try.prog 14 = false := by kernel_rfl
theorem ze14 : tyZ Try.prog 14 = some [.val (.string ⟨#[]⟩), .val (.int .u64 0)] := by kernel_rfl
theorem fi14 : tyF Try.prog 14 = some [(0, 1), (1, 1)] := by kernel_rfl
theorem fa14_0 : tyFA Try.prog 14 0 = some 0 := by kernel_rfl
theorem ft14_0 : tyFT Try.prog 14 0 = some (0, 9) := by kernel_rfl
theorem fa14_1 : tyFA Try.prog 14 1 = some 1 := by kernel_rfl
theorem ft14_1 : tyFT Try.prog 14 1 = some (1, 12) := by kernel_rfl
theorem ag15 : tyAgg Try.prog 15 = some false := by kernel_rfl
theorem sz15 : tySz Try.prog 15 = some 1 := by kernel_rfl
theorem by15 : tyBy Try.prog 15 = some 8 := by kernel_rfl
theorem un15 : (Try.prog.underlying 15).isSome = true := by kernel_rfl
theorem ni15 : tyNoIf Try.prog 15 = true := by kernel_rfl
theorem bo15 : tyBool Try.prog 15 = false := by kernel_rfl
theorem st15 : tyStr Try.prog 15 = false := by kernel_rfl
theorem ze15 : tyZ Try.prog 15 = some [.val (.pointer none)] := by kernel_rfl
theorem ag16 : tyAgg Try.prog 16 = some false := by kernel_rfl
theorem sz16 : tySz Try.prog 16 = some 1 := by kernel_rfl
theorem by16 : tyBy Try.prog 16 = some 8 := by kernel_rfl
theorem un16 : (Try.prog.underlying 16).isSome = true := by kernel_rfl
theorem ni16 : tyNoIf Try.prog 16 = true := by kernel_rfl
theorem bo16 : tyBool Try.prog 16 = false := by kernel_rfl
theorem st16 : tyStr Try.prog 16 = false := by kernel_rfl
theorem ze16 : tyZ Try.prog 16 = some [.val (.pointer none)] := by kernel_rfl
theorem ag17 : tyAgg Try.prog 17 = some false := by kernel_rfl
theorem sz17 : tySz Try.prog 17 = some 1 := by kernel_rfl
theorem by17 : tyBy Try.prog 17 = some 8 := by kernel_rfl
theorem un17 : (Try.prog.underlying 17).isSome = true := by kernel_rfl
theorem ni17 : tyNoIf Try.prog 17 = true := by kernel_rfl
theorem bo17 : tyBool Try.prog 17 = false := by kernel_rfl
theorem st17 : tyStr Try.prog 17 = false := by kernel_rfl
theorem ze17 : tyZ Try.prog 17 = some [.val (.pointer none)] := by kernel_rfl
theorem ag18 : tyAgg Try.prog 18 = some true := by kernel_rfl
theorem sz18 : tySz Try.prog 18 = some 1 := by kernel_rfl
theorem by18 : tyBy Try.prog 18 = some 8 := by kernel_rfl
theorem un18 : (Try.prog.underlying 18).isSome = true := by kernel_rfl
theorem ni18 : tyNoIf Try.prog 18 = true := by kernel_rfl
theorem bo18 : tyBool Try.prog 18 = false := by kernel_rfl
theorem st18 : tyStr Try.prog 18 = false := by kernel_rfl
theorem ze18 : tyZ Try.prog 18 = some [.val (.pointer none)] := by kernel_rfl
theorem fi18 : tyF Try.prog 18 = some [(0, 1)] := by kernel_rfl
theorem fa18_0 : tyFA Try.prog 18 0 = some 0 := by kernel_rfl
theorem ft18_0 : tyFT Try.prog 18 0 = some (0, 17) := by kernel_rfl
theorem ag19 : tyAgg Try.prog 19 = some true := by kernel_rfl
theorem sz19 : tySz Try.prog 19 = some 1 := by kernel_rfl
theorem by19 : tyBy Try.prog 19 = some 8 := by kernel_rfl
theorem un19 : (Try.prog.underlying 19).isSome = true := by kernel_rfl
theorem ni19 : tyNoIf Try.prog 19 = true := by kernel_rfl
theorem bo19 : tyBool Try.prog 19 = false := by kernel_rfl
theorem st19 : tyStr Try.prog 19 = false := by kernel_rfl
theorem ze19 : tyZ Try.prog 19 = some [.val (.pointer none)] := by kernel_rfl
theorem fi19 : tyF Try.prog 19 = some [(0, 1)] := by kernel_rfl
theorem fa19_0 : tyFA Try.prog 19 0 = some 0 := by kernel_rfl
theorem ft19_0 : tyFT Try.prog 19 0 = some (0, 17) := by kernel_rfl
theorem ag20 : tyAgg Try.prog 20 = some false := by kernel_rfl
theorem sz20 : tySz Try.prog 20 = some 1 := by kernel_rfl
theorem by20 : tyBy Try.prog 20 = some 16 := by kernel_rfl
theorem un20 : (Try.prog.underlying 20).isSome = true := by kernel_rfl
theorem ni20 : tyNoIf Try.prog 20 = false := by kernel_rfl
theorem bo20 : tyBool Try.prog 20 = false := by kernel_rfl
theorem st20 : tyStr Try.prog 20 = false := by kernel_rfl
theorem ze20 : tyZ Try.prog 20 = some [.val .nilIface] := by kernel_rfl
theorem ag21 : tyAgg Try.prog 21 = some false := by kernel_rfl
theorem sz21 : tySz Try.prog 21 = some 1 := by kernel_rfl
theorem by21 : tyBy Try.prog 21 = some 4 := by kernel_rfl
theorem un21 : (Try.prog.underlying 21).isSome = true := by kernel_rfl
theorem ni21 : tyNoIf Try.prog 21 = true := by kernel_rfl
theorem in21 : tyInt Try.prog 21 = some .i32 := by kernel_rfl
theorem bo21 : tyBool Try.prog 21 = false := by kernel_rfl
theorem st21 : tyStr Try.prog 21 = false := by kernel_rfl
theorem ze21 : tyZ Try.prog 21 = some [.val (.int .i32 0)] := by kernel_rfl
theorem ag22 : tyAgg Try.prog 22 = some true := by kernel_rfl
theorem sz22 : tySz Try.prog 22 = some 2 := by kernel_rfl
theorem by22 : tyBy Try.prog 22 = some 16 := by kernel_rfl
theorem un22 : (Try.prog.underlying 22).isSome = true := by kernel_rfl
theorem ni22 : tyNoIf Try.prog 22 = true := by kernel_rfl
theorem bo22 : tyBool Try.prog 22 = false := by kernel_rfl
theorem st22 : tyStr Try.prog 22 = false := by kernel_rfl
theorem ze22 : tyZ Try.prog 22 = some [.val (.int .i64 0), .val (.int .i64 0)] := by kernel_rfl
theorem fi22 : tyF Try.prog 22 = some [(0, 1), (1, 1)] := by kernel_rfl
theorem fa22_0 : tyFA Try.prog 22 0 = some 0 := by kernel_rfl
theorem ft22_0 : tyFT Try.prog 22 0 = some (0, 3) := by kernel_rfl
theorem fa22_1 : tyFA Try.prog 22 1 = some 1 := by kernel_rfl
theorem ft22_1 : tyFT Try.prog 22 1 = some (1, 3) := by kernel_rfl
theorem ag23 : tyAgg Try.prog 23 = some true := by kernel_rfl
theorem sz23 : tySz Try.prog 23 = some 2 := by kernel_rfl
theorem by23 : tyBy Try.prog 23 = some 16 := by kernel_rfl
theorem un23 : (Try.prog.underlying 23).isSome = true := by kernel_rfl
theorem ni23 : tyNoIf Try.prog 23 = true := by kernel_rfl
theorem bo23 : tyBool Try.prog 23 = false := by kernel_rfl
theorem st23 : tyStr Try.prog 23 = false := by kernel_rfl
theorem ze23 : tyZ Try.prog 23 = some [.val (.int .i64 0), .val (.int .i64 0)] := by kernel_rfl
theorem eq23 : tyEq Try.prog 23 = some [.int .i64, .int .i64] := by kernel_rfl
theorem fi23 : tyF Try.prog 23 = some [(0, 1), (1, 1)] := by kernel_rfl
theorem fa23_0 : tyFA Try.prog 23 0 = some 0 := by kernel_rfl
theorem ft23_0 : tyFT Try.prog 23 0 = some (0, 3) := by kernel_rfl
theorem fa23_1 : tyFA Try.prog 23 1 = some 1 := by kernel_rfl
theorem ft23_1 : tyFT Try.prog 23 1 = some (1, 3) := by kernel_rfl
theorem ag24 : tyAgg Try.prog 24 = some false := by kernel_rfl
theorem sz24 : tySz Try.prog 24 = some 1 := by kernel_rfl
theorem by24 : tyBy Try.prog 24 = some 8 := by kernel_rfl
theorem un24 : (Try.prog.underlying 24).isSome = true := by kernel_rfl
theorem ni24 : tyNoIf Try.prog 24 = true := by kernel_rfl
theorem in24 : tyInt Try.prog 24 = some .i64 := by kernel_rfl
theorem bo24 : tyBool Try.prog 24 = false := by kernel_rfl
theorem st24 : tyStr Try.prog 24 = false := by kernel_rfl
theorem ze24 : tyZ Try.prog 24 = some [.val (.int .i64 0)] := by kernel_rfl
theorem ag28 : tyAgg Try.prog 28 = some false := by kernel_rfl
theorem sz28 : tySz Try.prog 28 = some 1 := by kernel_rfl
theorem by28 : tyBy Try.prog 28 = some 24 := by kernel_rfl
theorem un28 : (Try.prog.underlying 28).isSome = true := by kernel_rfl
theorem ni28 : tyNoIf Try.prog 28 = true := by kernel_rfl
theorem el28 : tyEl Try.prog 28 = some 24 := by kernel_rfl
theorem bo28 : tyBool Try.prog 28 = false := by kernel_rfl
theorem st28 : tyStr Try.prog 28 = false := by kernel_rfl
theorem ze28 : tyZ Try.prog 28 = some [.val (.slice none 0 0)] := by kernel_rfl
theorem ag30 : tyAgg Try.prog 30 = some false := by kernel_rfl
theorem sz30 : tySz Try.prog 30 = some 1 := by kernel_rfl
theorem by30 : tyBy Try.prog 30 = some 24 := by kernel_rfl
theorem un30 : (Try.prog.underlying 30).isSome = true := by kernel_rfl
theorem ni30 : tyNoIf Try.prog 30 = true := by kernel_rfl
theorem el30 : tyEl Try.prog 30 = some 3 := by kernel_rfl
theorem bo30 : tyBool Try.prog 30 = false := by kernel_rfl
theorem st30 : tyStr Try.prog 30 = false := by kernel_rfl
theorem ze30 : tyZ Try.prog 30 = some [.val (.slice none 0 0)] := by kernel_rfl
theorem ag40 : tyAgg Try.prog 40 = some false := by kernel_rfl
theorem sz40 : tySz Try.prog 40 = some 1 := by kernel_rfl
theorem by40 : tyBy Try.prog 40 = some 8 := by kernel_rfl
theorem un40 : (Try.prog.underlying 40).isSome = true := by kernel_rfl
theorem ni40 : tyNoIf Try.prog 40 = true := by kernel_rfl
theorem in40 : tyInt Try.prog 40 = some .u64 := by kernel_rfl
theorem bo40 : tyBool Try.prog 40 = false := by kernel_rfl
theorem st40 : tyStr Try.prog 40 = false := by kernel_rfl
theorem ze40 : tyZ Try.prog 40 = some [.val (.int .u64 0)] := by kernel_rfl
theorem ag42 : tyAgg Try.prog 42 = some false := by kernel_rfl
theorem sz42 : tySz Try.prog 42 = some 1 := by kernel_rfl
theorem by42 : tyBy Try.prog 42 = some 8 := by kernel_rfl
theorem un42 : (Try.prog.underlying 42).isSome = true := by kernel_rfl
theorem ni42 : tyNoIf Try.prog 42 = true := by kernel_rfl
theorem in42 : tyInt Try.prog 42 = some .u64 := by kernel_rfl
theorem bo42 : tyBool Try.prog 42 = false := by kernel_rfl
theorem st42 : tyStr Try.prog 42 = false := by kernel_rfl
theorem ze42 : tyZ Try.prog 42 = some [.val (.int .u64 0)] := by kernel_rfl
theorem ag46 : tyAgg Try.prog 46 = some true := by kernel_rfl
theorem sz46 : tySz Try.prog 46 = some 4 := by kernel_rfl
theorem by46 : tyBy Try.prog 46 = some 40 := by kernel_rfl
theorem un46 : (Try.prog.underlying 46).isSome = true := by kernel_rfl
theorem ni46 : tyNoIf Try.prog 46 = true := by kernel_rfl
theorem bo46 : tyBool Try.prog 46 = false := by kernel_rfl
theorem st46 : tyStr Try.prog 46 = false := by kernel_rfl
theorem ze46 : tyZ Try.prog 46 = some [.val (.pointer none), .val (.pointer none), .val (.pointer none), .val (.string ⟨#[]⟩)] := by kernel_rfl
theorem fi46 : tyF Try.prog 46 = some [(0, 1), (1, 1), (2, 1), (3, 1)] := by kernel_rfl
theorem fa46_0 : tyFA Try.prog 46 0 = some 0 := by kernel_rfl
theorem ft46_0 : tyFT Try.prog 46 0 = some (0, 17) := by kernel_rfl
theorem fa46_1 : tyFA Try.prog 46 1 = some 1 := by kernel_rfl
theorem ft46_1 : tyFT Try.prog 46 1 = some (1, 17) := by kernel_rfl
theorem fa46_2 : tyFA Try.prog 46 2 = some 2 := by kernel_rfl
theorem ft46_2 : tyFT Try.prog 46 2 = some (2, 17) := by kernel_rfl
theorem fa46_3 : tyFA Try.prog 46 3 = some 3 := by kernel_rfl
theorem ft46_3 : tyFT Try.prog 46 3 = some (3, 9) := by kernel_rfl
theorem ag47 : tyAgg Try.prog 47 = some true := by kernel_rfl
theorem sz47 : tySz Try.prog 47 = some 4 := by kernel_rfl
theorem by47 : tyBy Try.prog 47 = some 40 := by kernel_rfl
theorem un47 : (Try.prog.underlying 47).isSome = true := by kernel_rfl
theorem ni47 : tyNoIf Try.prog 47 = true := by kernel_rfl
theorem bo47 : tyBool Try.prog 47 = false := by kernel_rfl
theorem st47 : tyStr Try.prog 47 = false := by kernel_rfl
theorem ze47 : tyZ Try.prog 47 = some [.val (.pointer none), .val (.pointer none), .val (.pointer none), .val (.string ⟨#[]⟩)] := by kernel_rfl
theorem fi47 : tyF Try.prog 47 = some [(0, 1), (1, 1), (2, 1), (3, 1)] := by kernel_rfl
theorem fa47_0 : tyFA Try.prog 47 0 = some 0 := by kernel_rfl
theorem ft47_0 : tyFT Try.prog 47 0 = some (0, 17) := by kernel_rfl
theorem fa47_1 : tyFA Try.prog 47 1 = some 1 := by kernel_rfl
theorem ft47_1 : tyFT Try.prog 47 1 = some (1, 17) := by kernel_rfl
theorem fa47_2 : tyFA Try.prog 47 2 = some 2 := by kernel_rfl
theorem ft47_2 : tyFT Try.prog 47 2 = some (2, 17) := by kernel_rfl
theorem fa47_3 : tyFA Try.prog 47 3 = some 3 := by kernel_rfl
theorem ft47_3 : tyFT Try.prog 47 3 = some (3, 9) := by kernel_rfl
theorem ag49 : tyAgg Try.prog 49 = some true := by kernel_rfl
theorem sz49 : tySz Try.prog 49 = some 0 := by kernel_rfl
theorem by49 : tyBy Try.prog 49 = some 0 := by kernel_rfl
theorem un49 : (Try.prog.underlying 49).isSome = true := by kernel_rfl
theorem ni49 : tyNoIf Try.prog 49 = true := by kernel_rfl
theorem bo49 : tyBool Try.prog 49 = false := by kernel_rfl
theorem st49 : tyStr Try.prog 49 = false := by kernel_rfl
theorem ze49 : tyZ Try.prog 49 = some [] := by kernel_rfl
theorem fi49 : tyF Try.prog 49 = some [(0, 0)] := by kernel_rfl
theorem ft49_0 : tyFT Try.prog 49 0 = some (0, 48) := by kernel_rfl
theorem ag50 : tyAgg Try.prog 50 = some true := by kernel_rfl
theorem sz50 : tySz Try.prog 50 = some 0 := by kernel_rfl
theorem by50 : tyBy Try.prog 50 = some 0 := by kernel_rfl
theorem un50 : (Try.prog.underlying 50).isSome = true := by kernel_rfl
theorem ni50 : tyNoIf Try.prog 50 = true := by kernel_rfl
theorem bo50 : tyBool Try.prog 50 = false := by kernel_rfl
theorem st50 : tyStr Try.prog 50 = false := by kernel_rfl
theorem ze50 : tyZ Try.prog 50 = some [] := by kernel_rfl
theorem fi50 : tyF Try.prog 50 = some [(0, 0)] := by kernel_rfl
theorem ft50_0 : tyFT Try.prog 50 0 = some (0, 48) := by kernel_rfl
theorem ag52 : tyAgg Try.prog 52 = some false := by kernel_rfl
theorem sz52 : tySz Try.prog 52 = some 1 := by kernel_rfl
theorem by52 : tyBy Try.prog 52 = some 4 := by kernel_rfl
theorem un52 : (Try.prog.underlying 52).isSome = true := by kernel_rfl
theorem ni52 : tyNoIf Try.prog 52 = true := by kernel_rfl
theorem in52 : tyInt Try.prog 52 = some .u32 := by kernel_rfl
theorem bo52 : tyBool Try.prog 52 = false := by kernel_rfl
theorem st52 : tyStr Try.prog 52 = false := by kernel_rfl
theorem ze52 : tyZ Try.prog 52 = some [.val (.int .u32 0)] := by kernel_rfl
theorem ag53 : tyAgg Try.prog 53 = some false := by kernel_rfl
theorem sz53 : tySz Try.prog 53 = some 1 := by kernel_rfl
theorem by53 : tyBy Try.prog 53 = some 1 := by kernel_rfl
theorem un53 : (Try.prog.underlying 53).isSome = true := by kernel_rfl
theorem ni53 : tyNoIf Try.prog 53 = true := by kernel_rfl
theorem in53 : tyInt Try.prog 53 = some .u8 := by kernel_rfl
theorem bo53 : tyBool Try.prog 53 = false := by kernel_rfl
theorem st53 : tyStr Try.prog 53 = false := by kernel_rfl
theorem ze53 : tyZ Try.prog 53 = some [.val (.int .u8 0)] := by kernel_rfl
theorem ag54 : tyAgg Try.prog 54 = some false := by kernel_rfl
theorem sz54 : tySz Try.prog 54 = some 1 := by kernel_rfl
theorem by54 : tyBy Try.prog 54 = some 1 := by kernel_rfl
theorem un54 : (Try.prog.underlying 54).isSome = true := by kernel_rfl
theorem ni54 : tyNoIf Try.prog 54 = true := by kernel_rfl
theorem in54 : tyInt Try.prog 54 = some .u8 := by kernel_rfl
theorem bo54 : tyBool Try.prog 54 = false := by kernel_rfl
theorem st54 : tyStr Try.prog 54 = false := by kernel_rfl
theorem ze54 : tyZ Try.prog 54 = some [.val (.int .u8 0)] := by kernel_rfl
theorem ag56 : tyAgg Try.prog 56 = some false := by kernel_rfl
theorem sz56 : tySz Try.prog 56 = some 1 := by kernel_rfl
theorem by56 : tyBy Try.prog 56 = some 8 := by kernel_rfl
theorem un56 : (Try.prog.underlying 56).isSome = true := by kernel_rfl
theorem ni56 : tyNoIf Try.prog 56 = true := by kernel_rfl
theorem bo56 : tyBool Try.prog 56 = false := by kernel_rfl
theorem st56 : tyStr Try.prog 56 = false := by kernel_rfl
theorem ze56 : tyZ Try.prog 56 = some [.val (.pointer none)] := by kernel_rfl
theorem ag57 : tyAgg Try.prog 57 = some false := by kernel_rfl
theorem sz57 : tySz Try.prog 57 = some 1 := by kernel_rfl
theorem by57 : tyBy Try.prog 57 = some 4 := by kernel_rfl
theorem un57 : (Try.prog.underlying 57).isSome = true := by kernel_rfl
theorem ni57 : tyNoIf Try.prog 57 = true := by kernel_rfl
theorem in57 : tyInt Try.prog 57 = some .i32 := by kernel_rfl
theorem bo57 : tyBool Try.prog 57 = false := by kernel_rfl
theorem st57 : tyStr Try.prog 57 = false := by kernel_rfl
theorem ze57 : tyZ Try.prog 57 = some [.val (.int .i32 0)] := by kernel_rfl
theorem ag58 : tyAgg Try.prog 58 = some false := by kernel_rfl
theorem sz58 : tySz Try.prog 58 = some 1 := by kernel_rfl
theorem by58 : tyBy Try.prog 58 = some 4 := by kernel_rfl
theorem un58 : (Try.prog.underlying 58).isSome = true := by kernel_rfl
theorem ni58 : tyNoIf Try.prog 58 = true := by kernel_rfl
theorem in58 : tyInt Try.prog 58 = some .i32 := by kernel_rfl
theorem bo58 : tyBool Try.prog 58 = false := by kernel_rfl
theorem st58 : tyStr Try.prog 58 = false := by kernel_rfl
theorem ze58 : tyZ Try.prog 58 = some [.val (.int .i32 0)] := by kernel_rfl
theorem ag59 : tyAgg Try.prog 59 = some true := by kernel_rfl
theorem sz59 : tySz Try.prog 59 = some 11 := by kernel_rfl
theorem by59 : tyBy Try.prog 59 = some 48 := by kernel_rfl
theorem un59 : (Try.prog.underlying 59).isSome = true := by kernel_rfl
theorem ni59 : tyNoIf Try.prog 59 = true := by kernel_rfl
theorem bo59 : tyBool Try.prog 59 = false := by kernel_rfl
theorem st59 : tyStr Try.prog 59 = false := by kernel_rfl
theorem ze59 : tyZ Try.prog 59 = some [.val (.int .u64 0), .val (.int .u64 0), .val (.int .u32 0), .val (.int .u8 0), .val (.int .u8 0), .val (.int .u8 0), .val (.int .u8 0), .val .nilFunc, .val (.pointer none), .val (.int .i32 0), .val (.int .i32 0)] := by kernel_rfl
theorem fi59 : tyF Try.prog 59 = some [(0, 1), (1, 1), (2, 1), (3, 1), (4, 1), (5, 1), (6, 1), (7, 1), (8, 1), (9, 1), (10, 1)] := by kernel_rfl
theorem fa59_0 : tyFA Try.prog 59 0 = some 0 := by kernel_rfl
theorem ft59_0 : tyFT Try.prog 59 0 = some (0, 12) := by kernel_rfl
theorem fa59_1 : tyFA Try.prog 59 1 = some 1 := by kernel_rfl
theorem ft59_1 : tyFT Try.prog 59 1 = some (1, 12) := by kernel_rfl
theorem fa59_2 : tyFA Try.prog 59 2 = some 2 := by kernel_rfl
theorem ft59_2 : tyFT Try.prog 59 2 = some (2, 52) := by kernel_rfl
theorem fa59_3 : tyFA Try.prog 59 3 = some 3 := by kernel_rfl
theorem ft59_3 : tyFT Try.prog 59 3 = some (3, 53) := by kernel_rfl
theorem fa59_4 : tyFA Try.prog 59 4 = some 4 := by kernel_rfl
theorem ft59_4 : tyFT Try.prog 59 4 = some (4, 5) := by kernel_rfl
theorem fa59_5 : tyFA Try.prog 59 5 = some 5 := by kernel_rfl
theorem ft59_5 : tyFT Try.prog 59 5 = some (5, 5) := by kernel_rfl
theorem fa59_6 : tyFA Try.prog 59 6 = some 6 := by kernel_rfl
theorem ft59_6 : tyFT Try.prog 59 6 = some (6, 54) := by kernel_rfl
theorem fa59_7 : tyFA Try.prog 59 7 = some 7 := by kernel_rfl
theorem ft59_7 : tyFT Try.prog 59 7 = some (7, 55) := by kernel_rfl
theorem fa59_8 : tyFA Try.prog 59 8 = some 8 := by kernel_rfl
theorem ft59_8 : tyFT Try.prog 59 8 = some (8, 56) := by kernel_rfl
theorem fa59_9 : tyFA Try.prog 59 9 = some 9 := by kernel_rfl
theorem ft59_9 : tyFT Try.prog 59 9 = some (9, 57) := by kernel_rfl
theorem fa59_10 : tyFA Try.prog 59 10 = some 10 := by kernel_rfl
theorem ft59_10 : tyFT Try.prog 59 10 = some (10, 58) := by kernel_rfl
theorem ag60 : tyAgg Try.prog 60 = some true := by kernel_rfl
theorem sz60 : tySz Try.prog 60 = some 11 := by kernel_rfl
theorem by60 : tyBy Try.prog 60 = some 48 := by kernel_rfl
theorem un60 : (Try.prog.underlying 60).isSome = true := by kernel_rfl
theorem ni60 : tyNoIf Try.prog 60 = true := by kernel_rfl
theorem bo60 : tyBool Try.prog 60 = false := by kernel_rfl
theorem st60 : tyStr Try.prog 60 = false := by kernel_rfl
theorem ze60 : tyZ Try.prog 60 = some [.val (.int .u64 0), .val (.int .u64 0), .val (.int .u32 0), .val (.int .u8 0), .val (.int .u8 0), .val (.int .u8 0), .val (.int .u8 0), .val .nilFunc, .val (.pointer none), .val (.int .i32 0), .val (.int .i32 0)] := by kernel_rfl
theorem fi60 : tyF Try.prog 60 = some [(0, 1), (1, 1), (2, 1), (3, 1), (4, 1), (5, 1), (6, 1), (7, 1), (8, 1), (9, 1), (10, 1)] := by kernel_rfl
theorem fa60_0 : tyFA Try.prog 60 0 = some 0 := by kernel_rfl
theorem ft60_0 : tyFT Try.prog 60 0 = some (0, 12) := by kernel_rfl
theorem fa60_1 : tyFA Try.prog 60 1 = some 1 := by kernel_rfl
theorem ft60_1 : tyFT Try.prog 60 1 = some (1, 12) := by kernel_rfl
theorem fa60_2 : tyFA Try.prog 60 2 = some 2 := by kernel_rfl
theorem ft60_2 : tyFT Try.prog 60 2 = some (2, 52) := by kernel_rfl
theorem fa60_3 : tyFA Try.prog 60 3 = some 3 := by kernel_rfl
theorem ft60_3 : tyFT Try.prog 60 3 = some (3, 53) := by kernel_rfl
theorem fa60_4 : tyFA Try.prog 60 4 = some 4 := by kernel_rfl
theorem ft60_4 : tyFT Try.prog 60 4 = some (4, 5) := by kernel_rfl
theorem fa60_5 : tyFA Try.prog 60 5 = some 5 := by kernel_rfl
theorem ft60_5 : tyFT Try.prog 60 5 = some (5, 5) := by kernel_rfl
theorem fa60_6 : tyFA Try.prog 60 6 = some 6 := by kernel_rfl
theorem ft60_6 : tyFT Try.prog 60 6 = some (6, 54) := by kernel_rfl
theorem fa60_7 : tyFA Try.prog 60 7 = some 7 := by kernel_rfl
theorem ft60_7 : tyFT Try.prog 60 7 = some (7, 55) := by kernel_rfl
theorem fa60_8 : tyFA Try.prog 60 8 = some 8 := by kernel_rfl
theorem ft60_8 : tyFT Try.prog 60 8 = some (8, 56) := by kernel_rfl
theorem fa60_9 : tyFA Try.prog 60 9 = some 9 := by kernel_rfl
theorem ft60_9 : tyFT Try.prog 60 9 = some (9, 57) := by kernel_rfl
theorem fa60_10 : tyFA Try.prog 60 10 = some 10 := by kernel_rfl
theorem ft60_10 : tyFT Try.prog 60 10 = some (10, 58) := by kernel_rfl
theorem ag61 : tyAgg Try.prog 61 = some false := by kernel_rfl
theorem sz61 : tySz Try.prog 61 = some 1 := by kernel_rfl
theorem by61 : tyBy Try.prog 61 = some 8 := by kernel_rfl
theorem un61 : (Try.prog.underlying 61).isSome = true := by kernel_rfl
theorem ni61 : tyNoIf Try.prog 61 = true := by kernel_rfl
theorem bo61 : tyBool Try.prog 61 = false := by kernel_rfl
theorem st61 : tyStr Try.prog 61 = false := by kernel_rfl
theorem ze61 : tyZ Try.prog 61 = some [.val (.pointer none)] := by kernel_rfl
theorem ca3 : callable Try.prog 3 = true := by kernel_rfl
theorem ca4 : callable Try.prog 4 = true := by kernel_rfl
theorem ca5 : callable Try.prog 5 = true := by kernel_rfl
theorem ca6 : callable Try.prog 6 = true := by kernel_rfl
theorem ca7 : callable Try.prog 7 = true := by kernel_rfl
theorem ca8 : callable Try.prog 8 = true := by kernel_rfl
theorem ca9 : callable Try.prog 9 = true := by kernel_rfl
theorem ca10 : callable Try.prog 10 = true := by kernel_rfl
theorem ca11 : callable Try.prog 11 = true := by kernel_rfl
theorem ca12 : callable Try.prog 12 = true := by kernel_rfl
theorem ca13 : callable Try.prog 13 = true := by kernel_rfl
theorem ca14 : callable Try.prog 14 = true := by kernel_rfl
theorem ca15 : callable Try.prog 15 = true := by kernel_rfl
theorem ca16 : callable Try.prog 16 = true := by kernel_rfl
theorem ca17 : callable Try.prog 17 = true := by kernel_rfl
theorem ca18 : callable Try.prog 18 = true := by kernel_rfl
theorem ca19 : callable Try.prog 19 = true := by kernel_rfl
theorem ca20 : callable Try.prog 20 = true := by kernel_rfl
theorem tabs : ((((((((type_of% @ag2) ∧ ((type_of% @sz2) ∧ (type_of% @by2))) ∧ (((type_of% @un2) ∧ (type_of% @ni2)) ∧ ((type_of% @in2) ∧ (type_of% @bo2)))) ∧ (((type_of% @st2) ∧ ((type_of% @ze2) ∧ (type_of% @ag3))) ∧ (((type_of% @sz3) ∧ (type_of% @by3)) ∧ ((type_of% @un3) ∧ (type_of% @ni3))))) ∧ ((((type_of% @in3) ∧ ((type_of% @bo3) ∧ (type_of% @st3))) ∧ (((type_of% @ze3) ∧ (type_of% @ag4)) ∧ ((type_of% @sz4) ∧ (type_of% @by4)))) ∧ ((((type_of% @un4) ∧ (type_of% @ni4)) ∧ ((type_of% @bo4) ∧ (type_of% @st4))) ∧ (((type_of% @ze4) ∧ (type_of% @ag5)) ∧ ((type_of% @sz5) ∧ (type_of% @by5)))))) ∧ (((((type_of% @un5) ∧ ((type_of% @ni5) ∧ (type_of% @in5))) ∧ (((type_of% @bo5) ∧ (type_of% @st5)) ∧ ((type_of% @ze5) ∧ (type_of% @ag6)))) ∧ (((type_of% @sz6) ∧ ((type_of% @by6) ∧ (type_of% @un6))) ∧ (((type_of% @ni6) ∧ (type_of% @in6)) ∧ ((type_of% @bo6) ∧ (type_of% @st6))))) ∧ ((((type_of% @ze6) ∧ ((type_of% @ag7) ∧ (type_of% @sz7))) ∧ (((type_of% @by7) ∧ (type_of% @un7)) ∧ ((type_of% @ni7) ∧ (type_of% @bo7)))) ∧ ((((type_of% @st7) ∧ (type_of% @ze7)) ∧ ((type_of% @fi7) ∧ (type_of% @fa7_0))) ∧ (((type_of% @ft7_0) ∧ (type_of% @fa7_1)) ∧ ((type_of% @ft7_1) ∧ (type_of% @fa7_2))))))) ∧ ((((((type_of% @ft7_2) ∧ ((type_of% @fa7_3) ∧ (type_of% @ft7_3))) ∧ (((type_of% @ag8) ∧ (type_of% @sz8)) ∧ ((type_of% @by8) ∧ (type_of% @un8)))) ∧ (((type_of% @ni8) ∧ ((type_of% @bo8) ∧ (type_of% @st8))) ∧ (((type_of% @ze8) ∧ (type_of% @fi8)) ∧ ((type_of% @fa8_0) ∧ (type_of% @ft8_0))))) ∧ ((((type_of% @fa8_1) ∧ ((type_of% @ft8_1) ∧ (type_of% @fa8_2))) ∧ (((type_of% @ft8_2) ∧ (type_of% @fa8_3)) ∧ ((type_of% @ft8_3) ∧ (type_of% @ag9)))) ∧ ((((type_of% @sz9) ∧ (type_of% @by9)) ∧ ((type_of% @un9) ∧ (type_of% @ni9))) ∧ (((type_of% @bo9) ∧ (type_of% @st9)) ∧ ((type_of% @ze9) ∧ (type_of% @ag10)))))) ∧ (((((type_of% @sz10) ∧ ((type_of% @by10) ∧ (type_of% @un10))) ∧ (((type_of% @ni10) ∧ (type_of% @bo10)) ∧ ((type_of% @st10) ∧ (type_of% @ze10)))) ∧ (((type_of% @ag11) ∧ ((type_of% @sz11) ∧ (type_of% @by11))) ∧ (((type_of% @un11) ∧ (type_of% @ni11)) ∧ ((type_of% @bo11) ∧ (type_of% @st11))))) ∧ ((((type_of% @ze11) ∧ ((type_of% @ag12) ∧ (type_of% @sz12))) ∧ (((type_of% @by12) ∧ (type_of% @un12)) ∧ ((type_of% @ni12) ∧ (type_of% @in12)))) ∧ ((((type_of% @bo12) ∧ (type_of% @st12)) ∧ ((type_of% @ze12) ∧ (type_of% @ag13))) ∧ (((type_of% @sz13) ∧ (type_of% @by13)) ∧ ((type_of% @un13) ∧ (type_of% @ni13)))))))) ∧ (((((((type_of% @bo13) ∧ ((type_of% @st13) ∧ (type_of% @ze13))) ∧ (((type_of% @fi13) ∧ (type_of% @fa13_0)) ∧ ((type_of% @ft13_0) ∧ (type_of% @fa13_1)))) ∧ (((type_of% @ft13_1) ∧ ((type_of% @ag14) ∧ (type_of% @sz14))) ∧ (((type_of% @by14) ∧ (type_of% @un14)) ∧ ((type_of% @ni14) ∧ (type_of% @bo14))))) ∧ ((((type_of% @st14) ∧ ((type_of% @ze14) ∧ (type_of% @fi14))) ∧ (((type_of% @fa14_0) ∧ (type_of% @ft14_0)) ∧ ((type_of% @fa14_1) ∧ (type_of% @ft14_1)))) ∧ ((((type_of% @ag15) ∧ (type_of% @sz15)) ∧ ((type_of% @by15) ∧ (type_of% @un15))) ∧ (((type_of% @ni15) ∧ (type_of% @bo15)) ∧ ((type_of% @st15) ∧ (type_of% @ze15)))))) ∧ (((((type_of% @ag16) ∧ ((type_of% @sz16) ∧ (type_of% @by16))) ∧ (((type_of% @un16) ∧ (type_of% @ni16)) ∧ ((type_of% @bo16) ∧ (type_of% @st16)))) ∧ (((type_of% @ze16) ∧ ((type_of% @ag17) ∧ (type_of% @sz17))) ∧ (((type_of% @by17) ∧ (type_of% @un17)) ∧ ((type_of% @ni17) ∧ (type_of% @bo17))))) ∧ ((((type_of% @st17) ∧ ((type_of% @ze17) ∧ (type_of% @ag18))) ∧ (((type_of% @sz18) ∧ (type_of% @by18)) ∧ ((type_of% @un18) ∧ (type_of% @ni18)))) ∧ ((((type_of% @bo18) ∧ (type_of% @st18)) ∧ ((type_of% @ze18) ∧ (type_of% @fi18))) ∧ (((type_of% @fa18_0) ∧ (type_of% @ft18_0)) ∧ ((type_of% @ag19) ∧ (type_of% @sz19))))))) ∧ ((((((type_of% @by19) ∧ ((type_of% @un19) ∧ (type_of% @ni19))) ∧ (((type_of% @bo19) ∧ (type_of% @st19)) ∧ ((type_of% @ze19) ∧ (type_of% @fi19)))) ∧ (((type_of% @fa19_0) ∧ ((type_of% @ft19_0) ∧ (type_of% @ag20))) ∧ (((type_of% @sz20) ∧ (type_of% @by20)) ∧ ((type_of% @un20) ∧ (type_of% @ni20))))) ∧ ((((type_of% @bo20) ∧ ((type_of% @st20) ∧ (type_of% @ze20))) ∧ (((type_of% @ag21) ∧ (type_of% @sz21)) ∧ ((type_of% @by21) ∧ (type_of% @un21)))) ∧ ((((type_of% @ni21) ∧ (type_of% @in21)) ∧ ((type_of% @bo21) ∧ (type_of% @st21))) ∧ (((type_of% @ze21) ∧ (type_of% @ag22)) ∧ ((type_of% @sz22) ∧ (type_of% @by22)))))) ∧ (((((type_of% @un22) ∧ ((type_of% @ni22) ∧ (type_of% @bo22))) ∧ (((type_of% @st22) ∧ (type_of% @ze22)) ∧ ((type_of% @fi22) ∧ (type_of% @fa22_0)))) ∧ ((((type_of% @ft22_0) ∧ (type_of% @fa22_1)) ∧ ((type_of% @ft22_1) ∧ (type_of% @ag23))) ∧ (((type_of% @sz23) ∧ (type_of% @by23)) ∧ ((type_of% @un23) ∧ (type_of% @ni23))))) ∧ ((((type_of% @bo23) ∧ ((type_of% @st23) ∧ (type_of% @ze23))) ∧ (((type_of% @eq23) ∧ (type_of% @fi23)) ∧ ((type_of% @fa23_0) ∧ (type_of% @ft23_0)))) ∧ ((((type_of% @fa23_1) ∧ (type_of% @ft23_1)) ∧ ((type_of% @ag24) ∧ (type_of% @sz24))) ∧ (((type_of% @by24) ∧ (type_of% @un24)) ∧ ((type_of% @ni24) ∧ (type_of% @in24))))))))) ∧ ((((((((type_of% @bo24) ∧ ((type_of% @st24) ∧ (type_of% @ze24))) ∧ (((type_of% @ag28) ∧ (type_of% @sz28)) ∧ ((type_of% @by28) ∧ (type_of% @un28)))) ∧ (((type_of% @ni28) ∧ ((type_of% @el28) ∧ (type_of% @bo28))) ∧ (((type_of% @st28) ∧ (type_of% @ze28)) ∧ ((type_of% @ag30) ∧ (type_of% @sz30))))) ∧ ((((type_of% @by30) ∧ ((type_of% @un30) ∧ (type_of% @ni30))) ∧ (((type_of% @el30) ∧ (type_of% @bo30)) ∧ ((type_of% @st30) ∧ (type_of% @ze30)))) ∧ ((((type_of% @ag40) ∧ (type_of% @sz40)) ∧ ((type_of% @by40) ∧ (type_of% @un40))) ∧ (((type_of% @ni40) ∧ (type_of% @in40)) ∧ ((type_of% @bo40) ∧ (type_of% @st40)))))) ∧ (((((type_of% @ze40) ∧ ((type_of% @ag42) ∧ (type_of% @sz42))) ∧ (((type_of% @by42) ∧ (type_of% @un42)) ∧ ((type_of% @ni42) ∧ (type_of% @in42)))) ∧ (((type_of% @bo42) ∧ ((type_of% @st42) ∧ (type_of% @ze42))) ∧ (((type_of% @ag46) ∧ (type_of% @sz46)) ∧ ((type_of% @by46) ∧ (type_of% @un46))))) ∧ ((((type_of% @ni46) ∧ ((type_of% @bo46) ∧ (type_of% @st46))) ∧ (((type_of% @ze46) ∧ (type_of% @fi46)) ∧ ((type_of% @fa46_0) ∧ (type_of% @ft46_0)))) ∧ ((((type_of% @fa46_1) ∧ (type_of% @ft46_1)) ∧ ((type_of% @fa46_2) ∧ (type_of% @ft46_2))) ∧ (((type_of% @fa46_3) ∧ (type_of% @ft46_3)) ∧ ((type_of% @ag47) ∧ (type_of% @sz47))))))) ∧ ((((((type_of% @by47) ∧ ((type_of% @un47) ∧ (type_of% @ni47))) ∧ (((type_of% @bo47) ∧ (type_of% @st47)) ∧ ((type_of% @ze47) ∧ (type_of% @fi47)))) ∧ (((type_of% @fa47_0) ∧ ((type_of% @ft47_0) ∧ (type_of% @fa47_1))) ∧ (((type_of% @ft47_1) ∧ (type_of% @fa47_2)) ∧ ((type_of% @ft47_2) ∧ (type_of% @fa47_3))))) ∧ ((((type_of% @ft47_3) ∧ ((type_of% @ag49) ∧ (type_of% @sz49))) ∧ (((type_of% @by49) ∧ (type_of% @un49)) ∧ ((type_of% @ni49) ∧ (type_of% @bo49)))) ∧ ((((type_of% @st49) ∧ (type_of% @ze49)) ∧ ((type_of% @fi49) ∧ (type_of% @ft49_0))) ∧ (((type_of% @ag50) ∧ (type_of% @sz50)) ∧ ((type_of% @by50) ∧ (type_of% @un50)))))) ∧ (((((type_of% @ni50) ∧ ((type_of% @bo50) ∧ (type_of% @st50))) ∧ (((type_of% @ze50) ∧ (type_of% @fi50)) ∧ ((type_of% @ft50_0) ∧ (type_of% @ag52)))) ∧ ((((type_of% @sz52) ∧ (type_of% @by52)) ∧ ((type_of% @un52) ∧ (type_of% @ni52))) ∧ (((type_of% @in52) ∧ (type_of% @bo52)) ∧ ((type_of% @st52) ∧ (type_of% @ze52))))) ∧ ((((type_of% @ag53) ∧ ((type_of% @sz53) ∧ (type_of% @by53))) ∧ (((type_of% @un53) ∧ (type_of% @ni53)) ∧ ((type_of% @in53) ∧ (type_of% @bo53)))) ∧ ((((type_of% @st53) ∧ (type_of% @ze53)) ∧ ((type_of% @ag54) ∧ (type_of% @sz54))) ∧ (((type_of% @by54) ∧ (type_of% @un54)) ∧ ((type_of% @ni54) ∧ (type_of% @in54)))))))) ∧ (((((((type_of% @bo54) ∧ ((type_of% @st54) ∧ (type_of% @ze54))) ∧ (((type_of% @ag56) ∧ (type_of% @sz56)) ∧ ((type_of% @by56) ∧ (type_of% @un56)))) ∧ (((type_of% @ni56) ∧ ((type_of% @bo56) ∧ (type_of% @st56))) ∧ (((type_of% @ze56) ∧ (type_of% @ag57)) ∧ ((type_of% @sz57) ∧ (type_of% @by57))))) ∧ ((((type_of% @un57) ∧ ((type_of% @ni57) ∧ (type_of% @in57))) ∧ (((type_of% @bo57) ∧ (type_of% @st57)) ∧ ((type_of% @ze57) ∧ (type_of% @ag58)))) ∧ ((((type_of% @sz58) ∧ (type_of% @by58)) ∧ ((type_of% @un58) ∧ (type_of% @ni58))) ∧ (((type_of% @in58) ∧ (type_of% @bo58)) ∧ ((type_of% @st58) ∧ (type_of% @ze58)))))) ∧ (((((type_of% @ag59) ∧ ((type_of% @sz59) ∧ (type_of% @by59))) ∧ (((type_of% @un59) ∧ (type_of% @ni59)) ∧ ((type_of% @bo59) ∧ (type_of% @st59)))) ∧ (((type_of% @ze59) ∧ ((type_of% @fi59) ∧ (type_of% @fa59_0))) ∧ (((type_of% @ft59_0) ∧ (type_of% @fa59_1)) ∧ ((type_of% @ft59_1) ∧ (type_of% @fa59_2))))) ∧ ((((type_of% @ft59_2) ∧ ((type_of% @fa59_3) ∧ (type_of% @ft59_3))) ∧ (((type_of% @fa59_4) ∧ (type_of% @ft59_4)) ∧ ((type_of% @fa59_5) ∧ (type_of% @ft59_5)))) ∧ ((((type_of% @fa59_6) ∧ (type_of% @ft59_6)) ∧ ((type_of% @fa59_7) ∧ (type_of% @ft59_7))) ∧ (((type_of% @fa59_8) ∧ (type_of% @ft59_8)) ∧ ((type_of% @fa59_9) ∧ (type_of% @ft59_9))))))) ∧ ((((((type_of% @fa59_10) ∧ ((type_of% @ft59_10) ∧ (type_of% @ag60))) ∧ (((type_of% @sz60) ∧ (type_of% @by60)) ∧ ((type_of% @un60) ∧ (type_of% @ni60)))) ∧ (((type_of% @bo60) ∧ ((type_of% @st60) ∧ (type_of% @ze60))) ∧ (((type_of% @fi60) ∧ (type_of% @fa60_0)) ∧ ((type_of% @ft60_0) ∧ (type_of% @fa60_1))))) ∧ ((((type_of% @ft60_1) ∧ ((type_of% @fa60_2) ∧ (type_of% @ft60_2))) ∧ (((type_of% @fa60_3) ∧ (type_of% @ft60_3)) ∧ ((type_of% @fa60_4) ∧ (type_of% @ft60_4)))) ∧ ((((type_of% @fa60_5) ∧ (type_of% @ft60_5)) ∧ ((type_of% @fa60_6) ∧ (type_of% @ft60_6))) ∧ (((type_of% @fa60_7) ∧ (type_of% @ft60_7)) ∧ ((type_of% @fa60_8) ∧ (type_of% @ft60_8)))))) ∧ (((((type_of% @fa60_9) ∧ ((type_of% @ft60_9) ∧ (type_of% @fa60_10))) ∧ (((type_of% @ft60_10) ∧ (type_of% @ag61)) ∧ ((type_of% @sz61) ∧ (type_of% @by61)))) ∧ ((((type_of% @un61) ∧ (type_of% @ni61)) ∧ ((type_of% @bo61) ∧ (type_of% @st61))) ∧ (((type_of% @ze61) ∧ (type_of% @ca3)) ∧ ((type_of% @ca4) ∧ (type_of% @ca5))))) ∧ ((((type_of% @ca6) ∧ ((type_of% @ca7) ∧ (type_of% @ca8))) ∧ (((type_of% @ca9) ∧ (type_of% @ca10)) ∧ ((type_of% @ca11) ∧ (type_of% @ca12)))) ∧ ((((type_of% @ca13) ∧ (type_of% @ca14)) ∧ ((type_of% @ca15) ∧ (type_of% @ca16))) ∧ (((type_of% @ca17) ∧ (type_of% @ca18)) ∧ ((type_of% @ca19) ∧ (type_of% @ca20))))))))) := ⟨⟨⟨⟨⟨⟨⟨⟨@ag2, ⟨@sz2, @by2⟩⟩, ⟨⟨@un2, @ni2⟩, ⟨@in2, @bo2⟩⟩⟩, ⟨⟨@st2, ⟨@ze2, @ag3⟩⟩, ⟨⟨@sz3, @by3⟩, ⟨@un3, @ni3⟩⟩⟩⟩, ⟨⟨⟨@in3, ⟨@bo3, @st3⟩⟩, ⟨⟨@ze3, @ag4⟩, ⟨@sz4, @by4⟩⟩⟩, ⟨⟨⟨@un4, @ni4⟩, ⟨@bo4, @st4⟩⟩, ⟨⟨@ze4, @ag5⟩, ⟨@sz5, @by5⟩⟩⟩⟩⟩, ⟨⟨⟨⟨@un5, ⟨@ni5, @in5⟩⟩, ⟨⟨@bo5, @st5⟩, ⟨@ze5, @ag6⟩⟩⟩, ⟨⟨@sz6, ⟨@by6, @un6⟩⟩, ⟨⟨@ni6, @in6⟩, ⟨@bo6, @st6⟩⟩⟩⟩, ⟨⟨⟨@ze6, ⟨@ag7, @sz7⟩⟩, ⟨⟨@by7, @un7⟩, ⟨@ni7, @bo7⟩⟩⟩, ⟨⟨⟨@st7, @ze7⟩, ⟨@fi7, @fa7_0⟩⟩, ⟨⟨@ft7_0, @fa7_1⟩, ⟨@ft7_1, @fa7_2⟩⟩⟩⟩⟩⟩, ⟨⟨⟨⟨⟨@ft7_2, ⟨@fa7_3, @ft7_3⟩⟩, ⟨⟨@ag8, @sz8⟩, ⟨@by8, @un8⟩⟩⟩, ⟨⟨@ni8, ⟨@bo8, @st8⟩⟩, ⟨⟨@ze8, @fi8⟩, ⟨@fa8_0, @ft8_0⟩⟩⟩⟩, ⟨⟨⟨@fa8_1, ⟨@ft8_1, @fa8_2⟩⟩, ⟨⟨@ft8_2, @fa8_3⟩, ⟨@ft8_3, @ag9⟩⟩⟩, ⟨⟨⟨@sz9, @by9⟩, ⟨@un9, @ni9⟩⟩, ⟨⟨@bo9, @st9⟩, ⟨@ze9, @ag10⟩⟩⟩⟩⟩, ⟨⟨⟨⟨@sz10, ⟨@by10, @un10⟩⟩, ⟨⟨@ni10, @bo10⟩, ⟨@st10, @ze10⟩⟩⟩, ⟨⟨@ag11, ⟨@sz11, @by11⟩⟩, ⟨⟨@un11, @ni11⟩, ⟨@bo11, @st11⟩⟩⟩⟩, ⟨⟨⟨@ze11, ⟨@ag12, @sz12⟩⟩, ⟨⟨@by12, @un12⟩, ⟨@ni12, @in12⟩⟩⟩, ⟨⟨⟨@bo12, @st12⟩, ⟨@ze12, @ag13⟩⟩, ⟨⟨@sz13, @by13⟩, ⟨@un13, @ni13⟩⟩⟩⟩⟩⟩⟩, ⟨⟨⟨⟨⟨⟨@bo13, ⟨@st13, @ze13⟩⟩, ⟨⟨@fi13, @fa13_0⟩, ⟨@ft13_0, @fa13_1⟩⟩⟩, ⟨⟨@ft13_1, ⟨@ag14, @sz14⟩⟩, ⟨⟨@by14, @un14⟩, ⟨@ni14, @bo14⟩⟩⟩⟩, ⟨⟨⟨@st14, ⟨@ze14, @fi14⟩⟩, ⟨⟨@fa14_0, @ft14_0⟩, ⟨@fa14_1, @ft14_1⟩⟩⟩, ⟨⟨⟨@ag15, @sz15⟩, ⟨@by15, @un15⟩⟩, ⟨⟨@ni15, @bo15⟩, ⟨@st15, @ze15⟩⟩⟩⟩⟩, ⟨⟨⟨⟨@ag16, ⟨@sz16, @by16⟩⟩, ⟨⟨@un16, @ni16⟩, ⟨@bo16, @st16⟩⟩⟩, ⟨⟨@ze16, ⟨@ag17, @sz17⟩⟩, ⟨⟨@by17, @un17⟩, ⟨@ni17, @bo17⟩⟩⟩⟩, ⟨⟨⟨@st17, ⟨@ze17, @ag18⟩⟩, ⟨⟨@sz18, @by18⟩, ⟨@un18, @ni18⟩⟩⟩, ⟨⟨⟨@bo18, @st18⟩, ⟨@ze18, @fi18⟩⟩, ⟨⟨@fa18_0, @ft18_0⟩, ⟨@ag19, @sz19⟩⟩⟩⟩⟩⟩, ⟨⟨⟨⟨⟨@by19, ⟨@un19, @ni19⟩⟩, ⟨⟨@bo19, @st19⟩, ⟨@ze19, @fi19⟩⟩⟩, ⟨⟨@fa19_0, ⟨@ft19_0, @ag20⟩⟩, ⟨⟨@sz20, @by20⟩, ⟨@un20, @ni20⟩⟩⟩⟩, ⟨⟨⟨@bo20, ⟨@st20, @ze20⟩⟩, ⟨⟨@ag21, @sz21⟩, ⟨@by21, @un21⟩⟩⟩, ⟨⟨⟨@ni21, @in21⟩, ⟨@bo21, @st21⟩⟩, ⟨⟨@ze21, @ag22⟩, ⟨@sz22, @by22⟩⟩⟩⟩⟩, ⟨⟨⟨⟨@un22, ⟨@ni22, @bo22⟩⟩, ⟨⟨@st22, @ze22⟩, ⟨@fi22, @fa22_0⟩⟩⟩, ⟨⟨⟨@ft22_0, @fa22_1⟩, ⟨@ft22_1, @ag23⟩⟩, ⟨⟨@sz23, @by23⟩, ⟨@un23, @ni23⟩⟩⟩⟩, ⟨⟨⟨@bo23, ⟨@st23, @ze23⟩⟩, ⟨⟨@eq23, @fi23⟩, ⟨@fa23_0, @ft23_0⟩⟩⟩, ⟨⟨⟨@fa23_1, @ft23_1⟩, ⟨@ag24, @sz24⟩⟩, ⟨⟨@by24, @un24⟩, ⟨@ni24, @in24⟩⟩⟩⟩⟩⟩⟩⟩, ⟨⟨⟨⟨⟨⟨⟨@bo24, ⟨@st24, @ze24⟩⟩, ⟨⟨@ag28, @sz28⟩, ⟨@by28, @un28⟩⟩⟩, ⟨⟨@ni28, ⟨@el28, @bo28⟩⟩, ⟨⟨@st28, @ze28⟩, ⟨@ag30, @sz30⟩⟩⟩⟩, ⟨⟨⟨@by30, ⟨@un30, @ni30⟩⟩, ⟨⟨@el30, @bo30⟩, ⟨@st30, @ze30⟩⟩⟩, ⟨⟨⟨@ag40, @sz40⟩, ⟨@by40, @un40⟩⟩, ⟨⟨@ni40, @in40⟩, ⟨@bo40, @st40⟩⟩⟩⟩⟩, ⟨⟨⟨⟨@ze40, ⟨@ag42, @sz42⟩⟩, ⟨⟨@by42, @un42⟩, ⟨@ni42, @in42⟩⟩⟩, ⟨⟨@bo42, ⟨@st42, @ze42⟩⟩, ⟨⟨@ag46, @sz46⟩, ⟨@by46, @un46⟩⟩⟩⟩, ⟨⟨⟨@ni46, ⟨@bo46, @st46⟩⟩, ⟨⟨@ze46, @fi46⟩, ⟨@fa46_0, @ft46_0⟩⟩⟩, ⟨⟨⟨@fa46_1, @ft46_1⟩, ⟨@fa46_2, @ft46_2⟩⟩, ⟨⟨@fa46_3, @ft46_3⟩, ⟨@ag47, @sz47⟩⟩⟩⟩⟩⟩, ⟨⟨⟨⟨⟨@by47, ⟨@un47, @ni47⟩⟩, ⟨⟨@bo47, @st47⟩, ⟨@ze47, @fi47⟩⟩⟩, ⟨⟨@fa47_0, ⟨@ft47_0, @fa47_1⟩⟩, ⟨⟨@ft47_1, @fa47_2⟩, ⟨@ft47_2, @fa47_3⟩⟩⟩⟩, ⟨⟨⟨@ft47_3, ⟨@ag49, @sz49⟩⟩, ⟨⟨@by49, @un49⟩, ⟨@ni49, @bo49⟩⟩⟩, ⟨⟨⟨@st49, @ze49⟩, ⟨@fi49, @ft49_0⟩⟩, ⟨⟨@ag50, @sz50⟩, ⟨@by50, @un50⟩⟩⟩⟩⟩, ⟨⟨⟨⟨@ni50, ⟨@bo50, @st50⟩⟩, ⟨⟨@ze50, @fi50⟩, ⟨@ft50_0, @ag52⟩⟩⟩, ⟨⟨⟨@sz52, @by52⟩, ⟨@un52, @ni52⟩⟩, ⟨⟨@in52, @bo52⟩, ⟨@st52, @ze52⟩⟩⟩⟩, ⟨⟨⟨@ag53, ⟨@sz53, @by53⟩⟩, ⟨⟨@un53, @ni53⟩, ⟨@in53, @bo53⟩⟩⟩, ⟨⟨⟨@st53, @ze53⟩, ⟨@ag54, @sz54⟩⟩, ⟨⟨@by54, @un54⟩, ⟨@ni54, @in54⟩⟩⟩⟩⟩⟩⟩, ⟨⟨⟨⟨⟨⟨@bo54, ⟨@st54, @ze54⟩⟩, ⟨⟨@ag56, @sz56⟩, ⟨@by56, @un56⟩⟩⟩, ⟨⟨@ni56, ⟨@bo56, @st56⟩⟩, ⟨⟨@ze56, @ag57⟩, ⟨@sz57, @by57⟩⟩⟩⟩, ⟨⟨⟨@un57, ⟨@ni57, @in57⟩⟩, ⟨⟨@bo57, @st57⟩, ⟨@ze57, @ag58⟩⟩⟩, ⟨⟨⟨@sz58, @by58⟩, ⟨@un58, @ni58⟩⟩, ⟨⟨@in58, @bo58⟩, ⟨@st58, @ze58⟩⟩⟩⟩⟩, ⟨⟨⟨⟨@ag59, ⟨@sz59, @by59⟩⟩, ⟨⟨@un59, @ni59⟩, ⟨@bo59, @st59⟩⟩⟩, ⟨⟨@ze59, ⟨@fi59, @fa59_0⟩⟩, ⟨⟨@ft59_0, @fa59_1⟩, ⟨@ft59_1, @fa59_2⟩⟩⟩⟩, ⟨⟨⟨@ft59_2, ⟨@fa59_3, @ft59_3⟩⟩, ⟨⟨@fa59_4, @ft59_4⟩, ⟨@fa59_5, @ft59_5⟩⟩⟩, ⟨⟨⟨@fa59_6, @ft59_6⟩, ⟨@fa59_7, @ft59_7⟩⟩, ⟨⟨@fa59_8, @ft59_8⟩, ⟨@fa59_9, @ft59_9⟩⟩⟩⟩⟩⟩, ⟨⟨⟨⟨⟨@fa59_10, ⟨@ft59_10, @ag60⟩⟩, ⟨⟨@sz60, @by60⟩, ⟨@un60, @ni60⟩⟩⟩, ⟨⟨@bo60, ⟨@st60, @ze60⟩⟩, ⟨⟨@fi60, @fa60_0⟩, ⟨@ft60_0, @fa60_1⟩⟩⟩⟩, ⟨⟨⟨@ft60_1, ⟨@fa60_2, @ft60_2⟩⟩, ⟨⟨@fa60_3, @ft60_3⟩, ⟨@fa60_4, @ft60_4⟩⟩⟩, ⟨⟨⟨@fa60_5, @ft60_5⟩, ⟨@fa60_6, @ft60_6⟩⟩, ⟨⟨@fa60_7, @ft60_7⟩, ⟨@fa60_8, @ft60_8⟩⟩⟩⟩⟩, ⟨⟨⟨⟨@fa60_9, ⟨@ft60_9, @fa60_10⟩⟩, ⟨⟨@ft60_10, @ag61⟩, ⟨@sz61, @by61⟩⟩⟩, ⟨⟨⟨@un61, @ni61⟩, ⟨@bo61, @st61⟩⟩, ⟨⟨@ze61, @ca3⟩, ⟨@ca4, @ca5⟩⟩⟩⟩, ⟨⟨⟨@ca6, ⟨@ca7, @ca8⟩⟩, ⟨⟨@ca9, @ca10⟩, ⟨@ca11, @ca12⟩⟩⟩, ⟨⟨⟨@ca13, @ca14⟩, ⟨@ca15, @ca16⟩⟩, ⟨⟨@ca17, @ca18⟩, ⟨@ca19, @ca20⟩⟩⟩⟩⟩⟩⟩⟩⟩
end Go.Proofs.Ythpfjigkhbabnaa.E
