/- Closed facts: what the walk asks of the program's table of types, and of its functions. No conditions. -/
import Derived.Test.YthpfjigkhbabnaaEngN
import Derived.Test.YthpfjigkhbabnaaProg
import Derived.KernelRfl
namespace Go.Proofs.Ythpfjigkhbabnaa.E
open Go
theorem nk1 : tyNil Try.prog 1 = some .func := by kernel_rfl
theorem ag1 : tyAgg Try.prog 1 = some false := by kernel_rfl
theorem sz1 : tySz Try.prog 1 = some 1 := by kernel_rfl
theorem by1 : tyBy Try.prog 1 = some 8 := by kernel_rfl
theorem un1 : (Try.prog.underlying 1).isSome = true := by kernel_rfl
theorem ni1 : tyNoIf Try.prog 1 = true := by kernel_rfl
theorem bo1 : tyBool Try.prog 1 = false := by kernel_rfl
theorem st1 : tyStr Try.prog 1 = false := by kernel_rfl
theorem ze1 : tyZ Try.prog 1 = some [.val .nilFunc] := by kernel_rfl
theorem ag2 : tyAgg Try.prog 2 = some false := by kernel_rfl
theorem sz2 : tySz Try.prog 2 = some 1 := by kernel_rfl
theorem by2 : tyBy Try.prog 2 = some 8 := by kernel_rfl
theorem un2 : (Try.prog.underlying 2).isSome = true := by kernel_rfl
theorem ni2 : tyNoIf Try.prog 2 = true := by kernel_rfl
theorem zo2 : tyZ1 Try.prog 2 = some ((.int .i64 0)) := by kernel_rfl
theorem in2 : tyInt Try.prog 2 = some .i64 := by kernel_rfl
theorem bo2 : tyBool Try.prog 2 = false := by kernel_rfl
theorem st2 : tyStr Try.prog 2 = false := by kernel_rfl
theorem ze2 : tyZ Try.prog 2 = some [.val (.int .i64 0)] := by kernel_rfl
theorem ag3 : tyAgg Try.prog 3 = some false := by kernel_rfl
theorem sz3 : tySz Try.prog 3 = some 1 := by kernel_rfl
theorem by3 : tyBy Try.prog 3 = some 8 := by kernel_rfl
theorem un3 : (Try.prog.underlying 3).isSome = true := by kernel_rfl
theorem ni3 : tyNoIf Try.prog 3 = true := by kernel_rfl
theorem zo3 : tyZ1 Try.prog 3 = some ((.int .i64 0)) := by kernel_rfl
theorem in3 : tyInt Try.prog 3 = some .i64 := by kernel_rfl
theorem bo3 : tyBool Try.prog 3 = false := by kernel_rfl
theorem st3 : tyStr Try.prog 3 = false := by kernel_rfl
theorem ze3 : tyZ Try.prog 3 = some [.val (.int .i64 0)] := by kernel_rfl
theorem ag4 : tyAgg Try.prog 4 = some false := by kernel_rfl
theorem sz4 : tySz Try.prog 4 = some 1 := by kernel_rfl
theorem by4 : tyBy Try.prog 4 = some 1 := by kernel_rfl
theorem un4 : (Try.prog.underlying 4).isSome = true := by kernel_rfl
theorem ni4 : tyNoIf Try.prog 4 = true := by kernel_rfl
theorem zo4 : tyZ1 Try.prog 4 = some ((.bool false)) := by kernel_rfl
theorem bo4 : tyBool Try.prog 4 = true := by kernel_rfl
theorem st4 : tyStr Try.prog 4 = false := by kernel_rfl
theorem ze4 : tyZ Try.prog 4 = some [.val (.bool false)] := by kernel_rfl
theorem ag5 : tyAgg Try.prog 5 = some false := by kernel_rfl
theorem sz5 : tySz Try.prog 5 = some 1 := by kernel_rfl
theorem by5 : tyBy Try.prog 5 = some 1 := by kernel_rfl
theorem un5 : (Try.prog.underlying 5).isSome = true := by kernel_rfl
theorem ni5 : tyNoIf Try.prog 5 = true := by kernel_rfl
theorem zo5 : tyZ1 Try.prog 5 = some ((.int .u8 0)) := by kernel_rfl
theorem in5 : tyInt Try.prog 5 = some .u8 := by kernel_rfl
theorem bo5 : tyBool Try.prog 5 = false := by kernel_rfl
theorem st5 : tyStr Try.prog 5 = false := by kernel_rfl
theorem ze5 : tyZ Try.prog 5 = some [.val (.int .u8 0)] := by kernel_rfl
theorem ag6 : tyAgg Try.prog 6 = some false := by kernel_rfl
theorem sz6 : tySz Try.prog 6 = some 1 := by kernel_rfl
theorem by6 : tyBy Try.prog 6 = some 1 := by kernel_rfl
theorem un6 : (Try.prog.underlying 6).isSome = true := by kernel_rfl
theorem ni6 : tyNoIf Try.prog 6 = true := by kernel_rfl
theorem zo6 : tyZ1 Try.prog 6 = some ((.int .u8 0)) := by kernel_rfl
theorem in6 : tyInt Try.prog 6 = some .u8 := by kernel_rfl
theorem bo6 : tyBool Try.prog 6 = false := by kernel_rfl
theorem st6 : tyStr Try.prog 6 = false := by kernel_rfl
theorem ze6 : tyZ Try.prog 6 = some [.val (.int .u8 0)] := by kernel_rfl
theorem ag7 : tyAgg Try.prog 7 = some true := by kernel_rfl
theorem sz7 : tySz Try.prog 7 = some 4 := by kernel_rfl
theorem by7 : tyBy Try.prog 7 = some 24 := by kernel_rfl
theorem un7 : (Try.prog.underlying 7).isSome = true := by kernel_rfl
theorem ni7 : tyNoIf Try.prog 7 = true := by kernel_rfl
theorem bo7 : tyBool Try.prog 7 = false := by kernel_rfl
theorem st7 : tyStr Try.prog 7 = false := by kernel_rfl
theorem ze7 : tyZ Try.prog 7 = some [.val (.int .i64 0), .val (.int .i64 0), .val (.bool false), .val (.int .u8 0)] := by kernel_rfl
theorem fi7 : tyF Try.prog 7 = some [(0, 1), (1, 1), (2, 1), (3, 1)] := by kernel_rfl
theorem fa7_0 : tyFA Try.prog 7 0 = some 0 := by kernel_rfl
theorem ft7_0 : tyFT Try.prog 7 0 = some (0, 2) := by kernel_rfl
theorem fa7_1 : tyFA Try.prog 7 1 = some 1 := by kernel_rfl
theorem ft7_1 : tyFT Try.prog 7 1 = some (1, 3) := by kernel_rfl
theorem fa7_2 : tyFA Try.prog 7 2 = some 2 := by kernel_rfl
theorem ft7_2 : tyFT Try.prog 7 2 = some (2, 4) := by kernel_rfl
theorem fa7_3 : tyFA Try.prog 7 3 = some 3 := by kernel_rfl
theorem ft7_3 : tyFT Try.prog 7 3 = some (3, 6) := by kernel_rfl
theorem ag8 : tyAgg Try.prog 8 = some true := by kernel_rfl
theorem sz8 : tySz Try.prog 8 = some 4 := by kernel_rfl
theorem by8 : tyBy Try.prog 8 = some 24 := by kernel_rfl
theorem un8 : (Try.prog.underlying 8).isSome = true := by kernel_rfl
theorem ni8 : tyNoIf Try.prog 8 = true := by kernel_rfl
theorem bo8 : tyBool Try.prog 8 = false := by kernel_rfl
theorem st8 : tyStr Try.prog 8 = false := by kernel_rfl
theorem ze8 : tyZ Try.prog 8 = some [.val (.int .i64 0), .val (.int .i64 0), .val (.bool false), .val (.int .u8 0)] := by kernel_rfl
theorem fi8 : tyF Try.prog 8 = some [(0, 1), (1, 1), (2, 1), (3, 1)] := by kernel_rfl
theorem fa8_0 : tyFA Try.prog 8 0 = some 0 := by kernel_rfl
theorem ft8_0 : tyFT Try.prog 8 0 = some (0, 2) := by kernel_rfl
theorem fa8_1 : tyFA Try.prog 8 1 = some 1 := by kernel_rfl
theorem ft8_1 : tyFT Try.prog 8 1 = some (1, 3) := by kernel_rfl
theorem fa8_2 : tyFA Try.prog 8 2 = some 2 := by kernel_rfl
theorem ft8_2 : tyFT Try.prog 8 2 = some (2, 4) := by kernel_rfl
theorem fa8_3 : tyFA Try.prog 8 3 = some 3 := by kernel_rfl
theorem ft8_3 : tyFT Try.prog 8 3 = some (3, 6) := by kernel_rfl
theorem ag9 : tyAgg Try.prog 9 = some false := by kernel_rfl
theorem sz9 : tySz Try.prog 9 = some 1 := by kernel_rfl
theorem by9 : tyBy Try.prog 9 = some 16 := by kernel_rfl
theorem un9 : (Try.prog.underlying 9).isSome = true := by kernel_rfl
theorem ni9 : tyNoIf Try.prog 9 = true := by kernel_rfl
theorem zo9 : tyZ1 Try.prog 9 = some ((.string ⟨#[]⟩)) := by kernel_rfl
theorem bo9 : tyBool Try.prog 9 = false := by kernel_rfl
theorem st9 : tyStr Try.prog 9 = true := by kernel_rfl
theorem ze9 : tyZ Try.prog 9 = some [.val (.string ⟨#[]⟩)] := by kernel_rfl
theorem ag10 : tyAgg Try.prog 10 = some false := by kernel_rfl
theorem sz10 : tySz Try.prog 10 = some 1 := by kernel_rfl
theorem by10 : tyBy Try.prog 10 = some 16 := by kernel_rfl
theorem un10 : (Try.prog.underlying 10).isSome = true := by kernel_rfl
theorem ni10 : tyNoIf Try.prog 10 = true := by kernel_rfl
theorem zo10 : tyZ1 Try.prog 10 = some ((.string ⟨#[]⟩)) := by kernel_rfl
theorem bo10 : tyBool Try.prog 10 = false := by kernel_rfl
theorem st10 : tyStr Try.prog 10 = true := by kernel_rfl
theorem ze10 : tyZ Try.prog 10 = some [.val (.string ⟨#[]⟩)] := by kernel_rfl
theorem ag11 : tyAgg Try.prog 11 = some false := by kernel_rfl
theorem sz11 : tySz Try.prog 11 = some 1 := by kernel_rfl
theorem by11 : tyBy Try.prog 11 = some 16 := by kernel_rfl
theorem un11 : (Try.prog.underlying 11).isSome = true := by kernel_rfl
theorem ni11 : tyNoIf Try.prog 11 = true := by kernel_rfl
theorem zo11 : tyZ1 Try.prog 11 = some ((.string ⟨#[]⟩)) := by kernel_rfl
theorem bo11 : tyBool Try.prog 11 = false := by kernel_rfl
theorem st11 : tyStr Try.prog 11 = true := by kernel_rfl
theorem ze11 : tyZ Try.prog 11 = some [.val (.string ⟨#[]⟩)] := by kernel_rfl
theorem ag12 : tyAgg Try.prog 12 = some false := by kernel_rfl
theorem sz12 : tySz Try.prog 12 = some 1 := by kernel_rfl
theorem by12 : tyBy Try.prog 12 = some 8 := by kernel_rfl
theorem un12 : (Try.prog.underlying 12).isSome = true := by kernel_rfl
theorem ni12 : tyNoIf Try.prog 12 = true := by kernel_rfl
theorem zo12 : tyZ1 Try.prog 12 = some ((.int .u64 0)) := by kernel_rfl
theorem in12 : tyInt Try.prog 12 = some .u64 := by kernel_rfl
theorem bo12 : tyBool Try.prog 12 = false := by kernel_rfl
theorem st12 : tyStr Try.prog 12 = false := by kernel_rfl
theorem ze12 : tyZ Try.prog 12 = some [.val (.int .u64 0)] := by kernel_rfl
theorem ag13 : tyAgg Try.prog 13 = some true := by kernel_rfl
theorem sz13 : tySz Try.prog 13 = some 2 := by kernel_rfl
theorem by13 : tyBy Try.prog 13 = some 24 := by kernel_rfl
theorem un13 : (Try.prog.underlying 13).isSome = true := by kernel_rfl
theorem ni13 : tyNoIf Try.prog 13 = true := by kernel_rfl
theorem bo13 : tyBool Try.prog 13 = false := by kernel_rfl
theorem st13 : tyStr Try.prog 13 = false := by kernel_rfl
theorem ze13 : tyZ Try.prog 13 = some [.val (.string ⟨#[]⟩), .val (.int .u64 0)] := by kernel_rfl
theorem fi13 : tyF Try.prog 13 = some [(0, 1), (1, 1)] := by kernel_rfl
theorem fa13_0 : tyFA Try.prog 13 0 = some 0 := by kernel_rfl
theorem ft13_0 : tyFT Try.prog 13 0 = some (0, 9) := by kernel_rfl
theorem fa13_1 : tyFA Try.prog 13 1 = some 1 := by kernel_rfl
theorem ft13_1 : tyFT Try.prog 13 1 = some (1, 12) := by kernel_rfl
theorem ag14 : tyAgg Try.prog 14 = some true := by kernel_rfl
theorem sz14 : tySz Try.prog 14 = some 2 := by kernel_rfl
theorem by14 : tyBy Try.prog 14 = some 24 := by kernel_rfl
theorem un14 : (Try.prog.underlying 14).isSome = true := by kernel_rfl
theorem ni14 : tyNoIf Try.prog 14 = true := by kernel_rfl
theorem bo14 : tyBool Try.prog 14 = false := by kernel_rfl
theorem st14 : tyStr Try.prog 14 = false := by kernel_rfl
theorem ze14 : tyZ Try.prog 14 = some [.val (.string ⟨#[]⟩), .val (.int .u64 0)] := by kernel_rfl
theorem fi14 : tyF Try.prog 14 = some [(0, 1), (1, 1)] := by kernel_rfl
theorem fa14_0 : tyFA Try.prog 14 0 = some 0 := by kernel_rfl
theorem ft14_0 : tyFT Try.prog 14 0 = some (0, 9) := by kernel_rfl
theorem fa14_1 : tyFA Try.prog 14 1 = some 1 := by kernel_rfl
theorem ft14_1 : tyFT Try.prog 14 1 = some (1, 12) := by kernel_rfl
theorem nk15 : tyNil Try.prog 15 = some .pointer := by kernel_rfl
theorem ag15 : tyAgg Try.prog 15 = some false := by kernel_rfl
theorem sz15 : tySz Try.prog 15 = some 1 := by kernel_rfl
theorem by15 : tyBy Try.prog 15 = some 8 := by kernel_rfl
theorem un15 : (Try.prog.underlying 15).isSome = true := by kernel_rfl
theorem ni15 : tyNoIf Try.prog 15 = true := by kernel_rfl
theorem zo15 : tyZ1 Try.prog 15 = some ((.pointer none)) := by kernel_rfl
theorem bo15 : tyBool Try.prog 15 = false := by kernel_rfl
theorem st15 : tyStr Try.prog 15 = false := by kernel_rfl
theorem ze15 : tyZ Try.prog 15 = some [.val (.pointer none)] := by kernel_rfl
theorem nk16 : tyNil Try.prog 16 = some .pointer := by kernel_rfl
theorem ag16 : tyAgg Try.prog 16 = some false := by kernel_rfl
theorem sz16 : tySz Try.prog 16 = some 1 := by kernel_rfl
theorem by16 : tyBy Try.prog 16 = some 8 := by kernel_rfl
theorem un16 : (Try.prog.underlying 16).isSome = true := by kernel_rfl
theorem ni16 : tyNoIf Try.prog 16 = true := by kernel_rfl
theorem zo16 : tyZ1 Try.prog 16 = some ((.pointer none)) := by kernel_rfl
theorem bo16 : tyBool Try.prog 16 = false := by kernel_rfl
theorem st16 : tyStr Try.prog 16 = false := by kernel_rfl
theorem ze16 : tyZ Try.prog 16 = some [.val (.pointer none)] := by kernel_rfl
theorem nk17 : tyNil Try.prog 17 = some .pointer := by kernel_rfl
theorem ag17 : tyAgg Try.prog 17 = some false := by kernel_rfl
theorem sz17 : tySz Try.prog 17 = some 1 := by kernel_rfl
theorem by17 : tyBy Try.prog 17 = some 8 := by kernel_rfl
theorem un17 : (Try.prog.underlying 17).isSome = true := by kernel_rfl
theorem ni17 : tyNoIf Try.prog 17 = true := by kernel_rfl
theorem zo17 : tyZ1 Try.prog 17 = some ((.pointer none)) := by kernel_rfl
theorem bo17 : tyBool Try.prog 17 = false := by kernel_rfl
theorem st17 : tyStr Try.prog 17 = false := by kernel_rfl
theorem ze17 : tyZ Try.prog 17 = some [.val (.pointer none)] := by kernel_rfl
theorem ag18 : tyAgg Try.prog 18 = some true := by kernel_rfl
theorem sz18 : tySz Try.prog 18 = some 1 := by kernel_rfl
theorem by18 : tyBy Try.prog 18 = some 8 := by kernel_rfl
theorem un18 : (Try.prog.underlying 18).isSome = true := by kernel_rfl
theorem ni18 : tyNoIf Try.prog 18 = true := by kernel_rfl
theorem bo18 : tyBool Try.prog 18 = false := by kernel_rfl
theorem st18 : tyStr Try.prog 18 = false := by kernel_rfl
theorem ze18 : tyZ Try.prog 18 = some [.val (.pointer none)] := by kernel_rfl
theorem fi18 : tyF Try.prog 18 = some [(0, 1)] := by kernel_rfl
theorem fa18_0 : tyFA Try.prog 18 0 = some 0 := by kernel_rfl
theorem ft18_0 : tyFT Try.prog 18 0 = some (0, 17) := by kernel_rfl
theorem ag19 : tyAgg Try.prog 19 = some true := by kernel_rfl
theorem sz19 : tySz Try.prog 19 = some 1 := by kernel_rfl
theorem by19 : tyBy Try.prog 19 = some 8 := by kernel_rfl
theorem un19 : (Try.prog.underlying 19).isSome = true := by kernel_rfl
theorem ni19 : tyNoIf Try.prog 19 = true := by kernel_rfl
theorem bo19 : tyBool Try.prog 19 = false := by kernel_rfl
theorem st19 : tyStr Try.prog 19 = false := by kernel_rfl
theorem ze19 : tyZ Try.prog 19 = some [.val (.pointer none)] := by kernel_rfl
theorem fi19 : tyF Try.prog 19 = some [(0, 1)] := by kernel_rfl
theorem fa19_0 : tyFA Try.prog 19 0 = some 0 := by kernel_rfl
theorem ft19_0 : tyFT Try.prog 19 0 = some (0, 17) := by kernel_rfl
theorem nk20 : tyNil Try.prog 20 = some .iface := by kernel_rfl
theorem ag20 : tyAgg Try.prog 20 = some false := by kernel_rfl
theorem sz20 : tySz Try.prog 20 = some 1 := by kernel_rfl
theorem by20 : tyBy Try.prog 20 = some 16 := by kernel_rfl
theorem un20 : (Try.prog.underlying 20).isSome = true := by kernel_rfl
theorem ni20 : tyNoIf Try.prog 20 = false := by kernel_rfl
theorem bo20 : tyBool Try.prog 20 = false := by kernel_rfl
theorem st20 : tyStr Try.prog 20 = false := by kernel_rfl
theorem ze20 : tyZ Try.prog 20 = some [.val .nilIface] := by kernel_rfl
theorem ag21 : tyAgg Try.prog 21 = some false := by kernel_rfl
theorem sz21 : tySz Try.prog 21 = some 1 := by kernel_rfl
theorem by21 : tyBy Try.prog 21 = some 4 := by kernel_rfl
theorem un21 : (Try.prog.underlying 21).isSome = true := by kernel_rfl
theorem ni21 : tyNoIf Try.prog 21 = true := by kernel_rfl
theorem zo21 : tyZ1 Try.prog 21 = some ((.int .i32 0)) := by kernel_rfl
theorem in21 : tyInt Try.prog 21 = some .i32 := by kernel_rfl
theorem bo21 : tyBool Try.prog 21 = false := by kernel_rfl
theorem st21 : tyStr Try.prog 21 = false := by kernel_rfl
theorem ze21 : tyZ Try.prog 21 = some [.val (.int .i32 0)] := by kernel_rfl
theorem ag22 : tyAgg Try.prog 22 = some true := by kernel_rfl
theorem sz22 : tySz Try.prog 22 = some 2 := by kernel_rfl
theorem by22 : tyBy Try.prog 22 = some 16 := by kernel_rfl
theorem un22 : (Try.prog.underlying 22).isSome = true := by kernel_rfl
theorem ni22 : tyNoIf Try.prog 22 = true := by kernel_rfl
theorem bo22 : tyBool Try.prog 22 = false := by kernel_rfl
theorem st22 : tyStr Try.prog 22 = false := by kernel_rfl
theorem ze22 : tyZ Try.prog 22 = some [.val (.int .i64 0), .val (.int .i64 0)] := by kernel_rfl
theorem fi22 : tyF Try.prog 22 = some [(0, 1), (1, 1)] := by kernel_rfl
theorem fa22_0 : tyFA Try.prog 22 0 = some 0 := by kernel_rfl
theorem ft22_0 : tyFT Try.prog 22 0 = some (0, 3) := by kernel_rfl
theorem fa22_1 : tyFA Try.prog 22 1 = some 1 := by kernel_rfl
theorem ft22_1 : tyFT Try.prog 22 1 = some (1, 3) := by kernel_rfl
theorem ag23 : tyAgg Try.prog 23 = some true := by kernel_rfl
theorem sz23 : tySz Try.prog 23 = some 2 := by kernel_rfl
theorem by23 : tyBy Try.prog 23 = some 16 := by kernel_rfl
theorem un23 : (Try.prog.underlying 23).isSome = true := by kernel_rfl
theorem ni23 : tyNoIf Try.prog 23 = true := by kernel_rfl
theorem bo23 : tyBool Try.prog 23 = false := by kernel_rfl
theorem st23 : tyStr Try.prog 23 = false := by kernel_rfl
theorem ze23 : tyZ Try.prog 23 = some [.val (.int .i64 0), .val (.int .i64 0)] := by kernel_rfl
theorem eq23 : tyEq Try.prog 23 = some [.int .i64, .int .i64] := by kernel_rfl
theorem fi23 : tyF Try.prog 23 = some [(0, 1), (1, 1)] := by kernel_rfl
theorem fa23_0 : tyFA Try.prog 23 0 = some 0 := by kernel_rfl
theorem ft23_0 : tyFT Try.prog 23 0 = some (0, 3) := by kernel_rfl
theorem fa23_1 : tyFA Try.prog 23 1 = some 1 := by kernel_rfl
theorem ft23_1 : tyFT Try.prog 23 1 = some (1, 3) := by kernel_rfl
theorem ag24 : tyAgg Try.prog 24 = some false := by kernel_rfl
theorem sz24 : tySz Try.prog 24 = some 1 := by kernel_rfl
theorem by24 : tyBy Try.prog 24 = some 8 := by kernel_rfl
theorem un24 : (Try.prog.underlying 24).isSome = true := by kernel_rfl
theorem ni24 : tyNoIf Try.prog 24 = true := by kernel_rfl
theorem zo24 : tyZ1 Try.prog 24 = some ((.int .i64 0)) := by kernel_rfl
theorem in24 : tyInt Try.prog 24 = some .i64 := by kernel_rfl
theorem bo24 : tyBool Try.prog 24 = false := by kernel_rfl
theorem st24 : tyStr Try.prog 24 = false := by kernel_rfl
theorem ze24 : tyZ Try.prog 24 = some [.val (.int .i64 0)] := by kernel_rfl
theorem nk26 : tyNil Try.prog 26 = some .func := by kernel_rfl
theorem ag26 : tyAgg Try.prog 26 = some false := by kernel_rfl
theorem sz26 : tySz Try.prog 26 = some 1 := by kernel_rfl
theorem by26 : tyBy Try.prog 26 = some 8 := by kernel_rfl
theorem un26 : (Try.prog.underlying 26).isSome = true := by kernel_rfl
theorem ni26 : tyNoIf Try.prog 26 = true := by kernel_rfl
theorem bo26 : tyBool Try.prog 26 = false := by kernel_rfl
theorem st26 : tyStr Try.prog 26 = false := by kernel_rfl
theorem ze26 : tyZ Try.prog 26 = some [.val .nilFunc] := by kernel_rfl
theorem nk27 : tyNil Try.prog 27 = some .func := by kernel_rfl
theorem ag27 : tyAgg Try.prog 27 = some false := by kernel_rfl
theorem sz27 : tySz Try.prog 27 = some 1 := by kernel_rfl
theorem by27 : tyBy Try.prog 27 = some 8 := by kernel_rfl
theorem un27 : (Try.prog.underlying 27).isSome = true := by kernel_rfl
theorem ni27 : tyNoIf Try.prog 27 = true := by kernel_rfl
theorem bo27 : tyBool Try.prog 27 = false := by kernel_rfl
theorem st27 : tyStr Try.prog 27 = false := by kernel_rfl
theorem ze27 : tyZ Try.prog 27 = some [.val .nilFunc] := by kernel_rfl
theorem nk28 : tyNil Try.prog 28 = some .slice := by kernel_rfl
theorem ag28 : tyAgg Try.prog 28 = some false := by kernel_rfl
theorem sz28 : tySz Try.prog 28 = some 1 := by kernel_rfl
theorem by28 : tyBy Try.prog 28 = some 24 := by kernel_rfl
theorem un28 : (Try.prog.underlying 28).isSome = true := by kernel_rfl
theorem ni28 : tyNoIf Try.prog 28 = true := by kernel_rfl
theorem zo28 : tyZ1 Try.prog 28 = some ((.slice none 0 0)) := by kernel_rfl
theorem el28 : tyEl Try.prog 28 = some 24 := by kernel_rfl
theorem bo28 : tyBool Try.prog 28 = false := by kernel_rfl
theorem st28 : tyStr Try.prog 28 = false := by kernel_rfl
theorem ze28 : tyZ Try.prog 28 = some [.val (.slice none 0 0)] := by kernel_rfl
theorem nk29 : tyNil Try.prog 29 = some .func := by kernel_rfl
theorem ag29 : tyAgg Try.prog 29 = some false := by kernel_rfl
theorem sz29 : tySz Try.prog 29 = some 1 := by kernel_rfl
theorem by29 : tyBy Try.prog 29 = some 8 := by kernel_rfl
theorem un29 : (Try.prog.underlying 29).isSome = true := by kernel_rfl
theorem ni29 : tyNoIf Try.prog 29 = true := by kernel_rfl
theorem bo29 : tyBool Try.prog 29 = false := by kernel_rfl
theorem st29 : tyStr Try.prog 29 = false := by kernel_rfl
theorem ze29 : tyZ Try.prog 29 = some [.val .nilFunc] := by kernel_rfl
theorem nk30 : tyNil Try.prog 30 = some .slice := by kernel_rfl
theorem ag30 : tyAgg Try.prog 30 = some false := by kernel_rfl
theorem sz30 : tySz Try.prog 30 = some 1 := by kernel_rfl
theorem by30 : tyBy Try.prog 30 = some 24 := by kernel_rfl
theorem un30 : (Try.prog.underlying 30).isSome = true := by kernel_rfl
theorem ni30 : tyNoIf Try.prog 30 = true := by kernel_rfl
theorem zo30 : tyZ1 Try.prog 30 = some ((.slice none 0 0)) := by kernel_rfl
theorem el30 : tyEl Try.prog 30 = some 3 := by kernel_rfl
theorem bo30 : tyBool Try.prog 30 = false := by kernel_rfl
theorem st30 : tyStr Try.prog 30 = false := by kernel_rfl
theorem ze30 : tyZ Try.prog 30 = some [.val (.slice none 0 0)] := by kernel_rfl
theorem nk32 : tyNil Try.prog 32 = some .func := by kernel_rfl
theorem ag32 : tyAgg Try.prog 32 = some false := by kernel_rfl
theorem sz32 : tySz Try.prog 32 = some 1 := by kernel_rfl
theorem by32 : tyBy Try.prog 32 = some 8 := by kernel_rfl
theorem un32 : (Try.prog.underlying 32).isSome = true := by kernel_rfl
theorem ni32 : tyNoIf Try.prog 32 = true := by kernel_rfl
theorem bo32 : tyBool Try.prog 32 = false := by kernel_rfl
theorem st32 : tyStr Try.prog 32 = false := by kernel_rfl
theorem ze32 : tyZ Try.prog 32 = some [.val .nilFunc] := by kernel_rfl
theorem nk33 : tyNil Try.prog 33 = some .func := by kernel_rfl
theorem ag33 : tyAgg Try.prog 33 = some false := by kernel_rfl
theorem sz33 : tySz Try.prog 33 = some 1 := by kernel_rfl
theorem by33 : tyBy Try.prog 33 = some 8 := by kernel_rfl
theorem un33 : (Try.prog.underlying 33).isSome = true := by kernel_rfl
theorem ni33 : tyNoIf Try.prog 33 = true := by kernel_rfl
theorem bo33 : tyBool Try.prog 33 = false := by kernel_rfl
theorem st33 : tyStr Try.prog 33 = false := by kernel_rfl
theorem ze33 : tyZ Try.prog 33 = some [.val .nilFunc] := by kernel_rfl
theorem nk34 : tyNil Try.prog 34 = some .func := by kernel_rfl
theorem ag34 : tyAgg Try.prog 34 = some false := by kernel_rfl
theorem sz34 : tySz Try.prog 34 = some 1 := by kernel_rfl
theorem by34 : tyBy Try.prog 34 = some 8 := by kernel_rfl
theorem un34 : (Try.prog.underlying 34).isSome = true := by kernel_rfl
theorem ni34 : tyNoIf Try.prog 34 = true := by kernel_rfl
theorem bo34 : tyBool Try.prog 34 = false := by kernel_rfl
theorem st34 : tyStr Try.prog 34 = false := by kernel_rfl
theorem ze34 : tyZ Try.prog 34 = some [.val .nilFunc] := by kernel_rfl
theorem nk35 : tyNil Try.prog 35 = some .func := by kernel_rfl
theorem ag35 : tyAgg Try.prog 35 = some false := by kernel_rfl
theorem sz35 : tySz Try.prog 35 = some 1 := by kernel_rfl
theorem by35 : tyBy Try.prog 35 = some 8 := by kernel_rfl
theorem un35 : (Try.prog.underlying 35).isSome = true := by kernel_rfl
theorem ni35 : tyNoIf Try.prog 35 = true := by kernel_rfl
theorem bo35 : tyBool Try.prog 35 = false := by kernel_rfl
theorem st35 : tyStr Try.prog 35 = false := by kernel_rfl
theorem ze35 : tyZ Try.prog 35 = some [.val .nilFunc] := by kernel_rfl
theorem nk37 : tyNil Try.prog 37 = some .func := by kernel_rfl
theorem ag37 : tyAgg Try.prog 37 = some false := by kernel_rfl
theorem sz37 : tySz Try.prog 37 = some 1 := by kernel_rfl
theorem by37 : tyBy Try.prog 37 = some 8 := by kernel_rfl
theorem un37 : (Try.prog.underlying 37).isSome = true := by kernel_rfl
theorem ni37 : tyNoIf Try.prog 37 = true := by kernel_rfl
theorem bo37 : tyBool Try.prog 37 = false := by kernel_rfl
theorem st37 : tyStr Try.prog 37 = false := by kernel_rfl
theorem ze37 : tyZ Try.prog 37 = some [.val .nilFunc] := by kernel_rfl
theorem nk38 : tyNil Try.prog 38 = some .func := by kernel_rfl
theorem ag38 : tyAgg Try.prog 38 = some false := by kernel_rfl
theorem sz38 : tySz Try.prog 38 = some 1 := by kernel_rfl
theorem by38 : tyBy Try.prog 38 = some 8 := by kernel_rfl
theorem un38 : (Try.prog.underlying 38).isSome = true := by kernel_rfl
theorem ni38 : tyNoIf Try.prog 38 = true := by kernel_rfl
theorem bo38 : tyBool Try.prog 38 = false := by kernel_rfl
theorem st38 : tyStr Try.prog 38 = false := by kernel_rfl
theorem ze38 : tyZ Try.prog 38 = some [.val .nilFunc] := by kernel_rfl
theorem nk39 : tyNil Try.prog 39 = some .func := by kernel_rfl
theorem ag39 : tyAgg Try.prog 39 = some false := by kernel_rfl
theorem sz39 : tySz Try.prog 39 = some 1 := by kernel_rfl
theorem by39 : tyBy Try.prog 39 = some 8 := by kernel_rfl
theorem un39 : (Try.prog.underlying 39).isSome = true := by kernel_rfl
theorem ni39 : tyNoIf Try.prog 39 = true := by kernel_rfl
theorem bo39 : tyBool Try.prog 39 = false := by kernel_rfl
theorem st39 : tyStr Try.prog 39 = false := by kernel_rfl
theorem ze39 : tyZ Try.prog 39 = some [.val .nilFunc] := by kernel_rfl
theorem ag40 : tyAgg Try.prog 40 = some false := by kernel_rfl
theorem sz40 : tySz Try.prog 40 = some 1 := by kernel_rfl
theorem by40 : tyBy Try.prog 40 = some 8 := by kernel_rfl
theorem un40 : (Try.prog.underlying 40).isSome = true := by kernel_rfl
theorem ni40 : tyNoIf Try.prog 40 = true := by kernel_rfl
theorem zo40 : tyZ1 Try.prog 40 = some ((.int .u64 0)) := by kernel_rfl
theorem in40 : tyInt Try.prog 40 = some .u64 := by kernel_rfl
theorem bo40 : tyBool Try.prog 40 = false := by kernel_rfl
theorem st40 : tyStr Try.prog 40 = false := by kernel_rfl
theorem ze40 : tyZ Try.prog 40 = some [.val (.int .u64 0)] := by kernel_rfl
theorem nk41 : tyNil Try.prog 41 = some .func := by kernel_rfl
theorem ag41 : tyAgg Try.prog 41 = some false := by kernel_rfl
theorem sz41 : tySz Try.prog 41 = some 1 := by kernel_rfl
theorem by41 : tyBy Try.prog 41 = some 8 := by kernel_rfl
theorem un41 : (Try.prog.underlying 41).isSome = true := by kernel_rfl
theorem ni41 : tyNoIf Try.prog 41 = true := by kernel_rfl
theorem bo41 : tyBool Try.prog 41 = false := by kernel_rfl
theorem st41 : tyStr Try.prog 41 = false := by kernel_rfl
theorem ze41 : tyZ Try.prog 41 = some [.val .nilFunc] := by kernel_rfl
theorem ag42 : tyAgg Try.prog 42 = some false := by kernel_rfl
theorem sz42 : tySz Try.prog 42 = some 1 := by kernel_rfl
theorem by42 : tyBy Try.prog 42 = some 8 := by kernel_rfl
theorem un42 : (Try.prog.underlying 42).isSome = true := by kernel_rfl
theorem ni42 : tyNoIf Try.prog 42 = true := by kernel_rfl
theorem zo42 : tyZ1 Try.prog 42 = some ((.int .u64 0)) := by kernel_rfl
theorem in42 : tyInt Try.prog 42 = some .u64 := by kernel_rfl
theorem bo42 : tyBool Try.prog 42 = false := by kernel_rfl
theorem st42 : tyStr Try.prog 42 = false := by kernel_rfl
theorem ze42 : tyZ Try.prog 42 = some [.val (.int .u64 0)] := by kernel_rfl
theorem nk43 : tyNil Try.prog 43 = some .func := by kernel_rfl
theorem ag43 : tyAgg Try.prog 43 = some false := by kernel_rfl
theorem sz43 : tySz Try.prog 43 = some 1 := by kernel_rfl
theorem by43 : tyBy Try.prog 43 = some 8 := by kernel_rfl
theorem un43 : (Try.prog.underlying 43).isSome = true := by kernel_rfl
theorem ni43 : tyNoIf Try.prog 43 = true := by kernel_rfl
theorem bo43 : tyBool Try.prog 43 = false := by kernel_rfl
theorem st43 : tyStr Try.prog 43 = false := by kernel_rfl
theorem ze43 : tyZ Try.prog 43 = some [.val .nilFunc] := by kernel_rfl
theorem nk44 : tyNil Try.prog 44 = some .func := by kernel_rfl
theorem ag44 : tyAgg Try.prog 44 = some false := by kernel_rfl
theorem sz44 : tySz Try.prog 44 = some 1 := by kernel_rfl
theorem by44 : tyBy Try.prog 44 = some 8 := by kernel_rfl
theorem un44 : (Try.prog.underlying 44).isSome = true := by kernel_rfl
theorem ni44 : tyNoIf Try.prog 44 = true := by kernel_rfl
theorem bo44 : tyBool Try.prog 44 = false := by kernel_rfl
theorem st44 : tyStr Try.prog 44 = false := by kernel_rfl
theorem ze44 : tyZ Try.prog 44 = some [.val .nilFunc] := by kernel_rfl
theorem nk45 : tyNil Try.prog 45 = some .func := by kernel_rfl
theorem ag45 : tyAgg Try.prog 45 = some false := by kernel_rfl
theorem sz45 : tySz Try.prog 45 = some 1 := by kernel_rfl
theorem by45 : tyBy Try.prog 45 = some 8 := by kernel_rfl
theorem un45 : (Try.prog.underlying 45).isSome = true := by kernel_rfl
theorem ni45 : tyNoIf Try.prog 45 = true := by kernel_rfl
theorem bo45 : tyBool Try.prog 45 = false := by kernel_rfl
theorem st45 : tyStr Try.prog 45 = false := by kernel_rfl
theorem ze45 : tyZ Try.prog 45 = some [.val .nilFunc] := by kernel_rfl
theorem ag46 : tyAgg Try.prog 46 = some true := by kernel_rfl
theorem sz46 : tySz Try.prog 46 = some 4 := by kernel_rfl
theorem by46 : tyBy Try.prog 46 = some 40 := by kernel_rfl
theorem un46 : (Try.prog.underlying 46).isSome = true := by kernel_rfl
theorem ni46 : tyNoIf Try.prog 46 = true := by kernel_rfl
theorem bo46 : tyBool Try.prog 46 = false := by kernel_rfl
theorem st46 : tyStr Try.prog 46 = false := by kernel_rfl
theorem ze46 : tyZ Try.prog 46 = some [.val (.pointer none), .val (.pointer none), .val (.pointer none), .val (.string ⟨#[]⟩)] := by kernel_rfl
theorem fi46 : tyF Try.prog 46 = some [(0, 1), (1, 1), (2, 1), (3, 1)] := by kernel_rfl
theorem fa46_0 : tyFA Try.prog 46 0 = some 0 := by kernel_rfl
theorem ft46_0 : tyFT Try.prog 46 0 = some (0, 17) := by kernel_rfl
theorem fa46_1 : tyFA Try.prog 46 1 = some 1 := by kernel_rfl
theorem ft46_1 : tyFT Try.prog 46 1 = some (1, 17) := by kernel_rfl
theorem fa46_2 : tyFA Try.prog 46 2 = some 2 := by kernel_rfl
theorem ft46_2 : tyFT Try.prog 46 2 = some (2, 17) := by kernel_rfl
theorem fa46_3 : tyFA Try.prog 46 3 = some 3 := by kernel_rfl
theorem ft46_3 : tyFT Try.prog 46 3 = some (3, 9) := by kernel_rfl
theorem ag47 : tyAgg Try.prog 47 = some true := by kernel_rfl
theorem sz47 : tySz Try.prog 47 = some 4 := by kernel_rfl
theorem by47 : tyBy Try.prog 47 = some 40 := by kernel_rfl
theorem un47 : (Try.prog.underlying 47).isSome = true := by kernel_rfl
theorem ni47 : tyNoIf Try.prog 47 = true := by kernel_rfl
theorem bo47 : tyBool Try.prog 47 = false := by kernel_rfl
theorem st47 : tyStr Try.prog 47 = false := by kernel_rfl
theorem ze47 : tyZ Try.prog 47 = some [.val (.pointer none), .val (.pointer none), .val (.pointer none), .val (.string ⟨#[]⟩)] := by kernel_rfl
theorem fi47 : tyF Try.prog 47 = some [(0, 1), (1, 1), (2, 1), (3, 1)] := by kernel_rfl
theorem fa47_0 : tyFA Try.prog 47 0 = some 0 := by kernel_rfl
theorem ft47_0 : tyFT Try.prog 47 0 = some (0, 17) := by kernel_rfl
theorem fa47_1 : tyFA Try.prog 47 1 = some 1 := by kernel_rfl
theorem ft47_1 : tyFT Try.prog 47 1 = some (1, 17) := by kernel_rfl
theorem fa47_2 : tyFA Try.prog 47 2 = some 2 := by kernel_rfl
theorem ft47_2 : tyFT Try.prog 47 2 = some (2, 17) := by kernel_rfl
theorem fa47_3 : tyFA Try.prog 47 3 = some 3 := by kernel_rfl
theorem ft47_3 : tyFT Try.prog 47 3 = some (3, 9) := by kernel_rfl
theorem ag49 : tyAgg Try.prog 49 = some true := by kernel_rfl
theorem sz49 : tySz Try.prog 49 = some 0 := by kernel_rfl
theorem by49 : tyBy Try.prog 49 = some 0 := by kernel_rfl
theorem un49 : (Try.prog.underlying 49).isSome = true := by kernel_rfl
theorem ni49 : tyNoIf Try.prog 49 = true := by kernel_rfl
theorem bo49 : tyBool Try.prog 49 = false := by kernel_rfl
theorem st49 : tyStr Try.prog 49 = false := by kernel_rfl
theorem ze49 : tyZ Try.prog 49 = some [] := by kernel_rfl
theorem fi49 : tyF Try.prog 49 = some [(0, 0)] := by kernel_rfl
theorem ft49_0 : tyFT Try.prog 49 0 = some (0, 48) := by kernel_rfl
theorem ag50 : tyAgg Try.prog 50 = some true := by kernel_rfl
theorem sz50 : tySz Try.prog 50 = some 0 := by kernel_rfl
theorem by50 : tyBy Try.prog 50 = some 0 := by kernel_rfl
theorem un50 : (Try.prog.underlying 50).isSome = true := by kernel_rfl
theorem ni50 : tyNoIf Try.prog 50 = true := by kernel_rfl
theorem bo50 : tyBool Try.prog 50 = false := by kernel_rfl
theorem st50 : tyStr Try.prog 50 = false := by kernel_rfl
theorem ze50 : tyZ Try.prog 50 = some [] := by kernel_rfl
theorem fi50 : tyF Try.prog 50 = some [(0, 0)] := by kernel_rfl
theorem ft50_0 : tyFT Try.prog 50 0 = some (0, 48) := by kernel_rfl
theorem nk51 : tyNil Try.prog 51 = some .func := by kernel_rfl
theorem ag51 : tyAgg Try.prog 51 = some false := by kernel_rfl
theorem sz51 : tySz Try.prog 51 = some 1 := by kernel_rfl
theorem by51 : tyBy Try.prog 51 = some 8 := by kernel_rfl
theorem un51 : (Try.prog.underlying 51).isSome = true := by kernel_rfl
theorem ni51 : tyNoIf Try.prog 51 = true := by kernel_rfl
theorem bo51 : tyBool Try.prog 51 = false := by kernel_rfl
theorem st51 : tyStr Try.prog 51 = false := by kernel_rfl
theorem ze51 : tyZ Try.prog 51 = some [.val .nilFunc] := by kernel_rfl
theorem ag52 : tyAgg Try.prog 52 = some false := by kernel_rfl
theorem sz52 : tySz Try.prog 52 = some 1 := by kernel_rfl
theorem by52 : tyBy Try.prog 52 = some 4 := by kernel_rfl
theorem un52 : (Try.prog.underlying 52).isSome = true := by kernel_rfl
theorem ni52 : tyNoIf Try.prog 52 = true := by kernel_rfl
theorem zo52 : tyZ1 Try.prog 52 = some ((.int .u32 0)) := by kernel_rfl
theorem in52 : tyInt Try.prog 52 = some .u32 := by kernel_rfl
theorem bo52 : tyBool Try.prog 52 = false := by kernel_rfl
theorem st52 : tyStr Try.prog 52 = false := by kernel_rfl
theorem ze52 : tyZ Try.prog 52 = some [.val (.int .u32 0)] := by kernel_rfl
theorem ag53 : tyAgg Try.prog 53 = some false := by kernel_rfl
theorem sz53 : tySz Try.prog 53 = some 1 := by kernel_rfl
theorem by53 : tyBy Try.prog 53 = some 1 := by kernel_rfl
theorem un53 : (Try.prog.underlying 53).isSome = true := by kernel_rfl
theorem ni53 : tyNoIf Try.prog 53 = true := by kernel_rfl
theorem zo53 : tyZ1 Try.prog 53 = some ((.int .u8 0)) := by kernel_rfl
theorem in53 : tyInt Try.prog 53 = some .u8 := by kernel_rfl
theorem bo53 : tyBool Try.prog 53 = false := by kernel_rfl
theorem st53 : tyStr Try.prog 53 = false := by kernel_rfl
theorem ze53 : tyZ Try.prog 53 = some [.val (.int .u8 0)] := by kernel_rfl
theorem ag54 : tyAgg Try.prog 54 = some false := by kernel_rfl
theorem sz54 : tySz Try.prog 54 = some 1 := by kernel_rfl
theorem by54 : tyBy Try.prog 54 = some 1 := by kernel_rfl
theorem un54 : (Try.prog.underlying 54).isSome = true := by kernel_rfl
theorem ni54 : tyNoIf Try.prog 54 = true := by kernel_rfl
theorem zo54 : tyZ1 Try.prog 54 = some ((.int .u8 0)) := by kernel_rfl
theorem in54 : tyInt Try.prog 54 = some .u8 := by kernel_rfl
theorem bo54 : tyBool Try.prog 54 = false := by kernel_rfl
theorem st54 : tyStr Try.prog 54 = false := by kernel_rfl
theorem ze54 : tyZ Try.prog 54 = some [.val (.int .u8 0)] := by kernel_rfl
theorem nk55 : tyNil Try.prog 55 = some .func := by kernel_rfl
theorem ag55 : tyAgg Try.prog 55 = some false := by kernel_rfl
theorem sz55 : tySz Try.prog 55 = some 1 := by kernel_rfl
theorem by55 : tyBy Try.prog 55 = some 8 := by kernel_rfl
theorem un55 : (Try.prog.underlying 55).isSome = true := by kernel_rfl
theorem ni55 : tyNoIf Try.prog 55 = true := by kernel_rfl
theorem bo55 : tyBool Try.prog 55 = false := by kernel_rfl
theorem st55 : tyStr Try.prog 55 = false := by kernel_rfl
theorem ze55 : tyZ Try.prog 55 = some [.val .nilFunc] := by kernel_rfl
theorem nk56 : tyNil Try.prog 56 = some .pointer := by kernel_rfl
theorem ag56 : tyAgg Try.prog 56 = some false := by kernel_rfl
theorem sz56 : tySz Try.prog 56 = some 1 := by kernel_rfl
theorem by56 : tyBy Try.prog 56 = some 8 := by kernel_rfl
theorem un56 : (Try.prog.underlying 56).isSome = true := by kernel_rfl
theorem ni56 : tyNoIf Try.prog 56 = true := by kernel_rfl
theorem zo56 : tyZ1 Try.prog 56 = some ((.pointer none)) := by kernel_rfl
theorem bo56 : tyBool Try.prog 56 = false := by kernel_rfl
theorem st56 : tyStr Try.prog 56 = false := by kernel_rfl
theorem ze56 : tyZ Try.prog 56 = some [.val (.pointer none)] := by kernel_rfl
theorem ag57 : tyAgg Try.prog 57 = some false := by kernel_rfl
theorem sz57 : tySz Try.prog 57 = some 1 := by kernel_rfl
theorem by57 : tyBy Try.prog 57 = some 4 := by kernel_rfl
theorem un57 : (Try.prog.underlying 57).isSome = true := by kernel_rfl
theorem ni57 : tyNoIf Try.prog 57 = true := by kernel_rfl
theorem zo57 : tyZ1 Try.prog 57 = some ((.int .i32 0)) := by kernel_rfl
theorem in57 : tyInt Try.prog 57 = some .i32 := by kernel_rfl
theorem bo57 : tyBool Try.prog 57 = false := by kernel_rfl
theorem st57 : tyStr Try.prog 57 = false := by kernel_rfl
theorem ze57 : tyZ Try.prog 57 = some [.val (.int .i32 0)] := by kernel_rfl
theorem ag58 : tyAgg Try.prog 58 = some false := by kernel_rfl
theorem sz58 : tySz Try.prog 58 = some 1 := by kernel_rfl
theorem by58 : tyBy Try.prog 58 = some 4 := by kernel_rfl
theorem un58 : (Try.prog.underlying 58).isSome = true := by kernel_rfl
theorem ni58 : tyNoIf Try.prog 58 = true := by kernel_rfl
theorem zo58 : tyZ1 Try.prog 58 = some ((.int .i32 0)) := by kernel_rfl
theorem in58 : tyInt Try.prog 58 = some .i32 := by kernel_rfl
theorem bo58 : tyBool Try.prog 58 = false := by kernel_rfl
theorem st58 : tyStr Try.prog 58 = false := by kernel_rfl
theorem ze58 : tyZ Try.prog 58 = some [.val (.int .i32 0)] := by kernel_rfl
theorem ag59 : tyAgg Try.prog 59 = some true := by kernel_rfl
theorem sz59 : tySz Try.prog 59 = some 11 := by kernel_rfl
theorem by59 : tyBy Try.prog 59 = some 48 := by kernel_rfl
theorem un59 : (Try.prog.underlying 59).isSome = true := by kernel_rfl
theorem ni59 : tyNoIf Try.prog 59 = true := by kernel_rfl
theorem bo59 : tyBool Try.prog 59 = false := by kernel_rfl
theorem st59 : tyStr Try.prog 59 = false := by kernel_rfl
theorem ze59 : tyZ Try.prog 59 = some [.val (.int .u64 0), .val (.int .u64 0), .val (.int .u32 0), .val (.int .u8 0), .val (.int .u8 0), .val (.int .u8 0), .val (.int .u8 0), .val .nilFunc, .val (.pointer none), .val (.int .i32 0), .val (.int .i32 0)] := by kernel_rfl
theorem fi59 : tyF Try.prog 59 = some [(0, 1), (1, 1), (2, 1), (3, 1), (4, 1), (5, 1), (6, 1), (7, 1), (8, 1), (9, 1), (10, 1)] := by kernel_rfl
theorem fa59_0 : tyFA Try.prog 59 0 = some 0 := by kernel_rfl
theorem ft59_0 : tyFT Try.prog 59 0 = some (0, 12) := by kernel_rfl
theorem fa59_1 : tyFA Try.prog 59 1 = some 1 := by kernel_rfl
theorem ft59_1 : tyFT Try.prog 59 1 = some (1, 12) := by kernel_rfl
theorem fa59_2 : tyFA Try.prog 59 2 = some 2 := by kernel_rfl
theorem ft59_2 : tyFT Try.prog 59 2 = some (2, 52) := by kernel_rfl
theorem fa59_3 : tyFA Try.prog 59 3 = some 3 := by kernel_rfl
theorem ft59_3 : tyFT Try.prog 59 3 = some (3, 53) := by kernel_rfl
theorem fa59_4 : tyFA Try.prog 59 4 = some 4 := by kernel_rfl
theorem ft59_4 : tyFT Try.prog 59 4 = some (4, 5) := by kernel_rfl
theorem fa59_5 : tyFA Try.prog 59 5 = some 5 := by kernel_rfl
theorem ft59_5 : tyFT Try.prog 59 5 = some (5, 5) := by kernel_rfl
theorem fa59_6 : tyFA Try.prog 59 6 = some 6 := by kernel_rfl
theorem ft59_6 : tyFT Try.prog 59 6 = some (6, 54) := by kernel_rfl
theorem fa59_7 : tyFA Try.prog 59 7 = some 7 := by kernel_rfl
theorem ft59_7 : tyFT Try.prog 59 7 = some (7, 55) := by kernel_rfl
theorem fa59_8 : tyFA Try.prog 59 8 = some 8 := by kernel_rfl
theorem ft59_8 : tyFT Try.prog 59 8 = some (8, 56) := by kernel_rfl
theorem fa59_9 : tyFA Try.prog 59 9 = some 9 := by kernel_rfl
theorem ft59_9 : tyFT Try.prog 59 9 = some (9, 57) := by kernel_rfl
theorem fa59_10 : tyFA Try.prog 59 10 = some 10 := by kernel_rfl
theorem ft59_10 : tyFT Try.prog 59 10 = some (10, 58) := by kernel_rfl
theorem ag60 : tyAgg Try.prog 60 = some true := by kernel_rfl
theorem sz60 : tySz Try.prog 60 = some 11 := by kernel_rfl
theorem by60 : tyBy Try.prog 60 = some 48 := by kernel_rfl
theorem un60 : (Try.prog.underlying 60).isSome = true := by kernel_rfl
theorem ni60 : tyNoIf Try.prog 60 = true := by kernel_rfl
theorem bo60 : tyBool Try.prog 60 = false := by kernel_rfl
theorem st60 : tyStr Try.prog 60 = false := by kernel_rfl
theorem ze60 : tyZ Try.prog 60 = some [.val (.int .u64 0), .val (.int .u64 0), .val (.int .u32 0), .val (.int .u8 0), .val (.int .u8 0), .val (.int .u8 0), .val (.int .u8 0), .val .nilFunc, .val (.pointer none), .val (.int .i32 0), .val (.int .i32 0)] := by kernel_rfl
theorem fi60 : tyF Try.prog 60 = some [(0, 1), (1, 1), (2, 1), (3, 1), (4, 1), (5, 1), (6, 1), (7, 1), (8, 1), (9, 1), (10, 1)] := by kernel_rfl
theorem fa60_0 : tyFA Try.prog 60 0 = some 0 := by kernel_rfl
theorem ft60_0 : tyFT Try.prog 60 0 = some (0, 12) := by kernel_rfl
theorem fa60_1 : tyFA Try.prog 60 1 = some 1 := by kernel_rfl
theorem ft60_1 : tyFT Try.prog 60 1 = some (1, 12) := by kernel_rfl
theorem fa60_2 : tyFA Try.prog 60 2 = some 2 := by kernel_rfl
theorem ft60_2 : tyFT Try.prog 60 2 = some (2, 52) := by kernel_rfl
theorem fa60_3 : tyFA Try.prog 60 3 = some 3 := by kernel_rfl
theorem ft60_3 : tyFT Try.prog 60 3 = some (3, 53) := by kernel_rfl
theorem fa60_4 : tyFA Try.prog 60 4 = some 4 := by kernel_rfl
theorem ft60_4 : tyFT Try.prog 60 4 = some (4, 5) := by kernel_rfl
theorem fa60_5 : tyFA Try.prog 60 5 = some 5 := by kernel_rfl
theorem ft60_5 : tyFT Try.prog 60 5 = some (5, 5) := by kernel_rfl
theorem fa60_6 : tyFA Try.prog 60 6 = some 6 := by kernel_rfl
theorem ft60_6 : tyFT Try.prog 60 6 = some (6, 54) := by kernel_rfl
theorem fa60_7 : tyFA Try.prog 60 7 = some 7 := by kernel_rfl
theorem ft60_7 : tyFT Try.prog 60 7 = some (7, 55) := by kernel_rfl
theorem fa60_8 : tyFA Try.prog 60 8 = some 8 := by kernel_rfl
theorem ft60_8 : tyFT Try.prog 60 8 = some (8, 56) := by kernel_rfl
theorem fa60_9 : tyFA Try.prog 60 9 = some 9 := by kernel_rfl
theorem ft60_9 : tyFT Try.prog 60 9 = some (9, 57) := by kernel_rfl
theorem fa60_10 : tyFA Try.prog 60 10 = some 10 := by kernel_rfl
theorem ft60_10 : tyFT Try.prog 60 10 = some (10, 58) := by kernel_rfl
theorem ag61 : tyAgg Try.prog 61 = some false := by kernel_rfl
theorem sz61 : tySz Try.prog 61 = some 1 := by kernel_rfl
theorem by61 : tyBy Try.prog 61 = some 8 := by kernel_rfl
theorem un61 : (Try.prog.underlying 61).isSome = true := by kernel_rfl
theorem ni61 : tyNoIf Try.prog 61 = true := by kernel_rfl
theorem bo61 : tyBool Try.prog 61 = false := by kernel_rfl
theorem st61 : tyStr Try.prog 61 = false := by kernel_rfl
theorem ze61 : tyZ Try.prog 61 = some [.val (.pointer none)] := by kernel_rfl
theorem fo : Try.prog.follows .mixedOrders = true := by kernel_rfl
theorem ca3 : callable Try.prog 3 = true := by kernel_rfl
theorem ca4 : callable Try.prog 4 = true := by kernel_rfl
theorem ca5 : callable Try.prog 5 = true := by kernel_rfl
theorem ca6 : callable Try.prog 6 = true := by kernel_rfl
theorem ca7 : callable Try.prog 7 = true := by kernel_rfl
theorem ca8 : callable Try.prog 8 = true := by kernel_rfl
theorem ca9 : callable Try.prog 9 = true := by kernel_rfl
theorem ca10 : callable Try.prog 10 = true := by kernel_rfl
theorem ca11 : callable Try.prog 11 = true := by kernel_rfl
theorem ca12 : callable Try.prog 12 = true := by kernel_rfl
theorem ca13 : callable Try.prog 13 = true := by kernel_rfl
theorem ca14 : callable Try.prog 14 = true := by kernel_rfl
theorem ca15 : callable Try.prog 15 = true := by kernel_rfl
theorem ca16 : callable Try.prog 16 = true := by kernel_rfl
theorem ca17 : callable Try.prog 17 = true := by kernel_rfl
theorem ca18 : callable Try.prog 18 = true := by kernel_rfl
theorem ca19 : callable Try.prog 19 = true := by kernel_rfl
theorem ca20 : callable Try.prog 20 = true := by kernel_rfl
theorem tabs : (((((((((type_of% @nk1) ∧ (type_of% @ag1)) ∧ ((type_of% @sz1) ∧ ((type_of% @by1) ∧ (type_of% @un1)))) ∧ (((type_of% @ni1) ∧ (type_of% @bo1)) ∧ ((type_of% @st1) ∧ ((type_of% @ze1) ∧ (type_of% @ag2))))) ∧ ((((type_of% @sz2) ∧ (type_of% @by2)) ∧ ((type_of% @un2) ∧ ((type_of% @ni2) ∧ (type_of% @zo2)))) ∧ (((type_of% @in2) ∧ (type_of% @bo2)) ∧ ((type_of% @st2) ∧ ((type_of% @ze2) ∧ (type_of% @ag3)))))) ∧ (((((type_of% @sz3) ∧ (type_of% @by3)) ∧ ((type_of% @un3) ∧ ((type_of% @ni3) ∧ (type_of% @zo3)))) ∧ (((type_of% @in3) ∧ (type_of% @bo3)) ∧ ((type_of% @st3) ∧ ((type_of% @ze3) ∧ (type_of% @ag4))))) ∧ ((((type_of% @sz4) ∧ (type_of% @by4)) ∧ ((type_of% @un4) ∧ ((type_of% @ni4) ∧ (type_of% @zo4)))) ∧ (((type_of% @bo4) ∧ (type_of% @st4)) ∧ ((type_of% @ze4) ∧ ((type_of% @ag5) ∧ (type_of% @sz5))))))) ∧ ((((((type_of% @by5) ∧ (type_of% @un5)) ∧ ((type_of% @ni5) ∧ ((type_of% @zo5) ∧ (type_of% @in5)))) ∧ (((type_of% @bo5) ∧ (type_of% @st5)) ∧ ((type_of% @ze5) ∧ ((type_of% @ag6) ∧ (type_of% @sz6))))) ∧ ((((type_of% @by6) ∧ (type_of% @un6)) ∧ ((type_of% @ni6) ∧ ((type_of% @zo6) ∧ (type_of% @in6)))) ∧ (((type_of% @bo6) ∧ (type_of% @st6)) ∧ ((type_of% @ze6) ∧ ((type_of% @ag7) ∧ (type_of% @sz7)))))) ∧ (((((type_of% @by7) ∧ (type_of% @un7)) ∧ ((type_of% @ni7) ∧ ((type_of% @bo7) ∧ (type_of% @st7)))) ∧ (((type_of% @ze7) ∧ (type_of% @fi7)) ∧ ((type_of% @fa7_0) ∧ ((type_of% @ft7_0) ∧ (type_of% @fa7_1))))) ∧ ((((type_of% @ft7_1) ∧ (type_of% @fa7_2)) ∧ ((type_of% @ft7_2) ∧ ((type_of% @fa7_3) ∧ (type_of% @ft7_3)))) ∧ (((type_of% @ag8) ∧ ((type_of% @sz8) ∧ (type_of% @by8))) ∧ ((type_of% @un8) ∧ ((type_of% @ni8) ∧ (type_of% @bo8)))))))) ∧ (((((((type_of% @st8) ∧ (type_of% @ze8)) ∧ ((type_of% @fi8) ∧ ((type_of% @fa8_0) ∧ (type_of% @ft8_0)))) ∧ (((type_of% @fa8_1) ∧ (type_of% @ft8_1)) ∧ ((type_of% @fa8_2) ∧ ((type_of% @ft8_2) ∧ (type_of% @fa8_3))))) ∧ ((((type_of% @ft8_3) ∧ (type_of% @ag9)) ∧ ((type_of% @sz9) ∧ ((type_of% @by9) ∧ (type_of% @un9)))) ∧ (((type_of% @ni9) ∧ (type_of% @zo9)) ∧ ((type_of% @bo9) ∧ ((type_of% @st9) ∧ (type_of% @ze9)))))) ∧ (((((type_of% @ag10) ∧ (type_of% @sz10)) ∧ ((type_of% @by10) ∧ ((type_of% @un10) ∧ (type_of% @ni10)))) ∧ (((type_of% @zo10) ∧ (type_of% @bo10)) ∧ ((type_of% @st10) ∧ ((type_of% @ze10) ∧ (type_of% @ag11))))) ∧ ((((type_of% @sz11) ∧ (type_of% @by11)) ∧ ((type_of% @un11) ∧ ((type_of% @ni11) ∧ (type_of% @zo11)))) ∧ (((type_of% @bo11) ∧ ((type_of% @st11) ∧ (type_of% @ze11))) ∧ ((type_of% @ag12) ∧ ((type_of% @sz12) ∧ (type_of% @by12))))))) ∧ ((((((type_of% @un12) ∧ (type_of% @ni12)) ∧ ((type_of% @zo12) ∧ ((type_of% @in12) ∧ (type_of% @bo12)))) ∧ (((type_of% @st12) ∧ (type_of% @ze12)) ∧ ((type_of% @ag13) ∧ ((type_of% @sz13) ∧ (type_of% @by13))))) ∧ ((((type_of% @un13) ∧ (type_of% @ni13)) ∧ ((type_of% @bo13) ∧ ((type_of% @st13) ∧ (type_of% @ze13)))) ∧ (((type_of% @fi13) ∧ (type_of% @fa13_0)) ∧ ((type_of% @ft13_0) ∧ ((type_of% @fa13_1) ∧ (type_of% @ft13_1)))))) ∧ (((((type_of% @ag14) ∧ (type_of% @sz14)) ∧ ((type_of% @by14) ∧ ((type_of% @un14) ∧ (type_of% @ni14)))) ∧ (((type_of% @bo14) ∧ (type_of% @st14)) ∧ ((type_of% @ze14) ∧ ((type_of% @fi14) ∧ (type_of% @fa14_0))))) ∧ ((((type_of% @ft14_0) ∧ (type_of% @fa14_1)) ∧ ((type_of% @ft14_1) ∧ ((type_of% @nk15) ∧ (type_of% @ag15)))) ∧ (((type_of% @sz15) ∧ ((type_of% @by15) ∧ (type_of% @un15))) ∧ ((type_of% @ni15) ∧ ((type_of% @zo15) ∧ (type_of% @bo15))))))))) ∧ ((((((((type_of% @st15) ∧ (type_of% @ze15)) ∧ ((type_of% @nk16) ∧ ((type_of% @ag16) ∧ (type_of% @sz16)))) ∧ (((type_of% @by16) ∧ (type_of% @un16)) ∧ ((type_of% @ni16) ∧ ((type_of% @zo16) ∧ (type_of% @bo16))))) ∧ ((((type_of% @st16) ∧ (type_of% @ze16)) ∧ ((type_of% @nk17) ∧ ((type_of% @ag17) ∧ (type_of% @sz17)))) ∧ (((type_of% @by17) ∧ (type_of% @un17)) ∧ ((type_of% @ni17) ∧ ((type_of% @zo17) ∧ (type_of% @bo17)))))) ∧ (((((type_of% @st17) ∧ (type_of% @ze17)) ∧ ((type_of% @ag18) ∧ ((type_of% @sz18) ∧ (type_of% @by18)))) ∧ (((type_of% @un18) ∧ (type_of% @ni18)) ∧ ((type_of% @bo18) ∧ ((type_of% @st18) ∧ (type_of% @ze18))))) ∧ ((((type_of% @fi18) ∧ (type_of% @fa18_0)) ∧ ((type_of% @ft18_0) ∧ ((type_of% @ag19) ∧ (type_of% @sz19)))) ∧ (((type_of% @by19) ∧ (type_of% @un19)) ∧ ((type_of% @ni19) ∧ ((type_of% @bo19) ∧ (type_of% @st19))))))) ∧ ((((((type_of% @ze19) ∧ (type_of% @fi19)) ∧ ((type_of% @fa19_0) ∧ ((type_of% @ft19_0) ∧ (type_of% @nk20)))) ∧ (((type_of% @ag20) ∧ (type_of% @sz20)) ∧ ((type_of% @by20) ∧ ((type_of% @un20) ∧ (type_of% @ni20))))) ∧ ((((type_of% @bo20) ∧ (type_of% @st20)) ∧ ((type_of% @ze20) ∧ ((type_of% @ag21) ∧ (type_of% @sz21)))) ∧ (((type_of% @by21) ∧ (type_of% @un21)) ∧ ((type_of% @ni21) ∧ ((type_of% @zo21) ∧ (type_of% @in21)))))) ∧ (((((type_of% @bo21) ∧ (type_of% @st21)) ∧ ((type_of% @ze21) ∧ ((type_of% @ag22) ∧ (type_of% @sz22)))) ∧ (((type_of% @by22) ∧ (type_of% @un22)) ∧ ((type_of% @ni22) ∧ ((type_of% @bo22) ∧ (type_of% @st22))))) ∧ ((((type_of% @ze22) ∧ (type_of% @fi22)) ∧ ((type_of% @fa22_0) ∧ ((type_of% @ft22_0) ∧ (type_of% @fa22_1)))) ∧ (((type_of% @ft22_1) ∧ ((type_of% @ag23) ∧ (type_of% @sz23))) ∧ ((type_of% @by23) ∧ ((type_of% @un23) ∧ (type_of% @ni23)))))))) ∧ (((((((type_of% @bo23) ∧ (type_of% @st23)) ∧ ((type_of% @ze23) ∧ ((type_of% @eq23) ∧ (type_of% @fi23)))) ∧ (((type_of% @fa23_0) ∧ (type_of% @ft23_0)) ∧ ((type_of% @fa23_1) ∧ ((type_of% @ft23_1) ∧ (type_of% @ag24))))) ∧ ((((type_of% @sz24) ∧ (type_of% @by24)) ∧ ((type_of% @un24) ∧ ((type_of% @ni24) ∧ (type_of% @zo24)))) ∧ (((type_of% @in24) ∧ (type_of% @bo24)) ∧ ((type_of% @st24) ∧ ((type_of% @ze24) ∧ (type_of% @nk26)))))) ∧ (((((type_of% @ag26) ∧ (type_of% @sz26)) ∧ ((type_of% @by26) ∧ ((type_of% @un26) ∧ (type_of% @ni26)))) ∧ (((type_of% @bo26) ∧ (type_of% @st26)) ∧ ((type_of% @ze26) ∧ ((type_of% @nk27) ∧ (type_of% @ag27))))) ∧ ((((type_of% @sz27) ∧ (type_of% @by27)) ∧ ((type_of% @un27) ∧ ((type_of% @ni27) ∧ (type_of% @bo27)))) ∧ (((type_of% @st27) ∧ ((type_of% @ze27) ∧ (type_of% @nk28))) ∧ ((type_of% @ag28) ∧ ((type_of% @sz28) ∧ (type_of% @by28))))))) ∧ ((((((type_of% @un28) ∧ (type_of% @ni28)) ∧ ((type_of% @zo28) ∧ ((type_of% @el28) ∧ (type_of% @bo28)))) ∧ (((type_of% @st28) ∧ (type_of% @ze28)) ∧ ((type_of% @nk29) ∧ ((type_of% @ag29) ∧ (type_of% @sz29))))) ∧ ((((type_of% @by29) ∧ (type_of% @un29)) ∧ ((type_of% @ni29) ∧ ((type_of% @bo29) ∧ (type_of% @st29)))) ∧ (((type_of% @ze29) ∧ (type_of% @nk30)) ∧ ((type_of% @ag30) ∧ ((type_of% @sz30) ∧ (type_of% @by30)))))) ∧ (((((type_of% @un30) ∧ (type_of% @ni30)) ∧ ((type_of% @zo30) ∧ ((type_of% @el30) ∧ (type_of% @bo30)))) ∧ (((type_of% @st30) ∧ (type_of% @ze30)) ∧ ((type_of% @nk32) ∧ ((type_of% @ag32) ∧ (type_of% @sz32))))) ∧ ((((type_of% @by32) ∧ (type_of% @un32)) ∧ ((type_of% @ni32) ∧ ((type_of% @bo32) ∧ (type_of% @st32)))) ∧ (((type_of% @ze32) ∧ ((type_of% @nk33) ∧ (type_of% @ag33))) ∧ ((type_of% @sz33) ∧ ((type_of% @by33) ∧ (type_of% @un33)))))))))) ∧ (((((((((type_of% @ni33) ∧ (type_of% @bo33)) ∧ ((type_of% @st33) ∧ ((type_of% @ze33) ∧ (type_of% @nk34)))) ∧ (((type_of% @ag34) ∧ (type_of% @sz34)) ∧ ((type_of% @by34) ∧ ((type_of% @un34) ∧ (type_of% @ni34))))) ∧ ((((type_of% @bo34) ∧ (type_of% @st34)) ∧ ((type_of% @ze34) ∧ ((type_of% @nk35) ∧ (type_of% @ag35)))) ∧ (((type_of% @sz35) ∧ (type_of% @by35)) ∧ ((type_of% @un35) ∧ ((type_of% @ni35) ∧ (type_of% @bo35)))))) ∧ (((((type_of% @st35) ∧ (type_of% @ze35)) ∧ ((type_of% @nk37) ∧ ((type_of% @ag37) ∧ (type_of% @sz37)))) ∧ (((type_of% @by37) ∧ (type_of% @un37)) ∧ ((type_of% @ni37) ∧ ((type_of% @bo37) ∧ (type_of% @st37))))) ∧ ((((type_of% @ze37) ∧ (type_of% @nk38)) ∧ ((type_of% @ag38) ∧ ((type_of% @sz38) ∧ (type_of% @by38)))) ∧ (((type_of% @un38) ∧ (type_of% @ni38)) ∧ ((type_of% @bo38) ∧ ((type_of% @st38) ∧ (type_of% @ze38))))))) ∧ ((((((type_of% @nk39) ∧ (type_of% @ag39)) ∧ ((type_of% @sz39) ∧ ((type_of% @by39) ∧ (type_of% @un39)))) ∧ (((type_of% @ni39) ∧ (type_of% @bo39)) ∧ ((type_of% @st39) ∧ ((type_of% @ze39) ∧ (type_of% @ag40))))) ∧ ((((type_of% @sz40) ∧ (type_of% @by40)) ∧ ((type_of% @un40) ∧ ((type_of% @ni40) ∧ (type_of% @zo40)))) ∧ (((type_of% @in40) ∧ (type_of% @bo40)) ∧ ((type_of% @st40) ∧ ((type_of% @ze40) ∧ (type_of% @nk41)))))) ∧ (((((type_of% @ag41) ∧ (type_of% @sz41)) ∧ ((type_of% @by41) ∧ ((type_of% @un41) ∧ (type_of% @ni41)))) ∧ (((type_of% @bo41) ∧ (type_of% @st41)) ∧ ((type_of% @ze41) ∧ ((type_of% @ag42) ∧ (type_of% @sz42))))) ∧ ((((type_of% @by42) ∧ (type_of% @un42)) ∧ ((type_of% @ni42) ∧ ((type_of% @zo42) ∧ (type_of% @in42)))) ∧ (((type_of% @bo42) ∧ ((type_of% @st42) ∧ (type_of% @ze42))) ∧ ((type_of% @nk43) ∧ ((type_of% @ag43) ∧ (type_of% @sz43)))))))) ∧ (((((((type_of% @by43) ∧ (type_of% @un43)) ∧ ((type_of% @ni43) ∧ ((type_of% @bo43) ∧ (type_of% @st43)))) ∧ (((type_of% @ze43) ∧ (type_of% @nk44)) ∧ ((type_of% @ag44) ∧ ((type_of% @sz44) ∧ (type_of% @by44))))) ∧ ((((type_of% @un44) ∧ (type_of% @ni44)) ∧ ((type_of% @bo44) ∧ ((type_of% @st44) ∧ (type_of% @ze44)))) ∧ (((type_of% @nk45) ∧ (type_of% @ag45)) ∧ ((type_of% @sz45) ∧ ((type_of% @by45) ∧ (type_of% @un45)))))) ∧ (((((type_of% @ni45) ∧ (type_of% @bo45)) ∧ ((type_of% @st45) ∧ ((type_of% @ze45) ∧ (type_of% @ag46)))) ∧ (((type_of% @sz46) ∧ (type_of% @by46)) ∧ ((type_of% @un46) ∧ ((type_of% @ni46) ∧ (type_of% @bo46))))) ∧ ((((type_of% @st46) ∧ (type_of% @ze46)) ∧ ((type_of% @fi46) ∧ ((type_of% @fa46_0) ∧ (type_of% @ft46_0)))) ∧ (((type_of% @fa46_1) ∧ ((type_of% @ft46_1) ∧ (type_of% @fa46_2))) ∧ ((type_of% @ft46_2) ∧ ((type_of% @fa46_3) ∧ (type_of% @ft46_3))))))) ∧ ((((((type_of% @ag47) ∧ (type_of% @sz47)) ∧ ((type_of% @by47) ∧ ((type_of% @un47) ∧ (type_of% @ni47)))) ∧ (((type_of% @bo47) ∧ (type_of% @st47)) ∧ ((type_of% @ze47) ∧ ((type_of% @fi47) ∧ (type_of% @fa47_0))))) ∧ ((((type_of% @ft47_0) ∧ (type_of% @fa47_1)) ∧ ((type_of% @ft47_1) ∧ ((type_of% @fa47_2) ∧ (type_of% @ft47_2)))) ∧ (((type_of% @fa47_3) ∧ (type_of% @ft47_3)) ∧ ((type_of% @ag49) ∧ ((type_of% @sz49) ∧ (type_of% @by49)))))) ∧ (((((type_of% @un49) ∧ (type_of% @ni49)) ∧ ((type_of% @bo49) ∧ ((type_of% @st49) ∧ (type_of% @ze49)))) ∧ (((type_of% @fi49) ∧ (type_of% @ft49_0)) ∧ ((type_of% @ag50) ∧ ((type_of% @sz50) ∧ (type_of% @by50))))) ∧ ((((type_of% @un50) ∧ (type_of% @ni50)) ∧ ((type_of% @bo50) ∧ ((type_of% @st50) ∧ (type_of% @ze50)))) ∧ (((type_of% @fi50) ∧ ((type_of% @ft50_0) ∧ (type_of% @nk51))) ∧ ((type_of% @ag51) ∧ ((type_of% @sz51) ∧ (type_of% @by51))))))))) ∧ ((((((((type_of% @un51) ∧ (type_of% @ni51)) ∧ ((type_of% @bo51) ∧ ((type_of% @st51) ∧ (type_of% @ze51)))) ∧ (((type_of% @ag52) ∧ (type_of% @sz52)) ∧ ((type_of% @by52) ∧ ((type_of% @un52) ∧ (type_of% @ni52))))) ∧ ((((type_of% @zo52) ∧ (type_of% @in52)) ∧ ((type_of% @bo52) ∧ ((type_of% @st52) ∧ (type_of% @ze52)))) ∧ (((type_of% @ag53) ∧ (type_of% @sz53)) ∧ ((type_of% @by53) ∧ ((type_of% @un53) ∧ (type_of% @ni53)))))) ∧ (((((type_of% @zo53) ∧ (type_of% @in53)) ∧ ((type_of% @bo53) ∧ ((type_of% @st53) ∧ (type_of% @ze53)))) ∧ (((type_of% @ag54) ∧ (type_of% @sz54)) ∧ ((type_of% @by54) ∧ ((type_of% @un54) ∧ (type_of% @ni54))))) ∧ ((((type_of% @zo54) ∧ (type_of% @in54)) ∧ ((type_of% @bo54) ∧ ((type_of% @st54) ∧ (type_of% @ze54)))) ∧ (((type_of% @nk55) ∧ (type_of% @ag55)) ∧ ((type_of% @sz55) ∧ ((type_of% @by55) ∧ (type_of% @un55))))))) ∧ ((((((type_of% @ni55) ∧ (type_of% @bo55)) ∧ ((type_of% @st55) ∧ ((type_of% @ze55) ∧ (type_of% @nk56)))) ∧ (((type_of% @ag56) ∧ (type_of% @sz56)) ∧ ((type_of% @by56) ∧ ((type_of% @un56) ∧ (type_of% @ni56))))) ∧ ((((type_of% @zo56) ∧ (type_of% @bo56)) ∧ ((type_of% @st56) ∧ ((type_of% @ze56) ∧ (type_of% @ag57)))) ∧ (((type_of% @sz57) ∧ (type_of% @by57)) ∧ ((type_of% @un57) ∧ ((type_of% @ni57) ∧ (type_of% @zo57)))))) ∧ (((((type_of% @in57) ∧ (type_of% @bo57)) ∧ ((type_of% @st57) ∧ ((type_of% @ze57) ∧ (type_of% @ag58)))) ∧ (((type_of% @sz58) ∧ (type_of% @by58)) ∧ ((type_of% @un58) ∧ ((type_of% @ni58) ∧ (type_of% @zo58))))) ∧ ((((type_of% @in58) ∧ (type_of% @bo58)) ∧ ((type_of% @st58) ∧ ((type_of% @ze58) ∧ (type_of% @ag59)))) ∧ (((type_of% @sz59) ∧ ((type_of% @by59) ∧ (type_of% @un59))) ∧ ((type_of% @ni59) ∧ ((type_of% @bo59) ∧ (type_of% @st59)))))))) ∧ (((((((type_of% @ze59) ∧ (type_of% @fi59)) ∧ ((type_of% @fa59_0) ∧ ((type_of% @ft59_0) ∧ (type_of% @fa59_1)))) ∧ (((type_of% @ft59_1) ∧ (type_of% @fa59_2)) ∧ ((type_of% @ft59_2) ∧ ((type_of% @fa59_3) ∧ (type_of% @ft59_3))))) ∧ ((((type_of% @fa59_4) ∧ (type_of% @ft59_4)) ∧ ((type_of% @fa59_5) ∧ ((type_of% @ft59_5) ∧ (type_of% @fa59_6)))) ∧ (((type_of% @ft59_6) ∧ (type_of% @fa59_7)) ∧ ((type_of% @ft59_7) ∧ ((type_of% @fa59_8) ∧ (type_of% @ft59_8)))))) ∧ (((((type_of% @fa59_9) ∧ (type_of% @ft59_9)) ∧ ((type_of% @fa59_10) ∧ ((type_of% @ft59_10) ∧ (type_of% @ag60)))) ∧ (((type_of% @sz60) ∧ (type_of% @by60)) ∧ ((type_of% @un60) ∧ ((type_of% @ni60) ∧ (type_of% @bo60))))) ∧ ((((type_of% @st60) ∧ (type_of% @ze60)) ∧ ((type_of% @fi60) ∧ ((type_of% @fa60_0) ∧ (type_of% @ft60_0)))) ∧ (((type_of% @fa60_1) ∧ ((type_of% @ft60_1) ∧ (type_of% @fa60_2))) ∧ ((type_of% @ft60_2) ∧ ((type_of% @fa60_3) ∧ (type_of% @ft60_3))))))) ∧ ((((((type_of% @fa60_4) ∧ (type_of% @ft60_4)) ∧ ((type_of% @fa60_5) ∧ ((type_of% @ft60_5) ∧ (type_of% @fa60_6)))) ∧ (((type_of% @ft60_6) ∧ (type_of% @fa60_7)) ∧ ((type_of% @ft60_7) ∧ ((type_of% @fa60_8) ∧ (type_of% @ft60_8))))) ∧ ((((type_of% @fa60_9) ∧ (type_of% @ft60_9)) ∧ ((type_of% @fa60_10) ∧ ((type_of% @ft60_10) ∧ (type_of% @ag61)))) ∧ (((type_of% @sz61) ∧ (type_of% @by61)) ∧ ((type_of% @un61) ∧ ((type_of% @ni61) ∧ (type_of% @bo61)))))) ∧ (((((type_of% @st61) ∧ (type_of% @ze61)) ∧ ((type_of% @fo) ∧ ((type_of% @ca3) ∧ (type_of% @ca4)))) ∧ (((type_of% @ca5) ∧ (type_of% @ca6)) ∧ ((type_of% @ca7) ∧ ((type_of% @ca8) ∧ (type_of% @ca9))))) ∧ ((((type_of% @ca10) ∧ (type_of% @ca11)) ∧ ((type_of% @ca12) ∧ ((type_of% @ca13) ∧ (type_of% @ca14)))) ∧ (((type_of% @ca15) ∧ ((type_of% @ca16) ∧ (type_of% @ca17))) ∧ ((type_of% @ca18) ∧ ((type_of% @ca19) ∧ (type_of% @ca20)))))))))) := ⟨⟨⟨⟨⟨⟨⟨⟨⟨@nk1, @ag1⟩, ⟨@sz1, ⟨@by1, @un1⟩⟩⟩, ⟨⟨@ni1, @bo1⟩, ⟨@st1, ⟨@ze1, @ag2⟩⟩⟩⟩, ⟨⟨⟨@sz2, @by2⟩, ⟨@un2, ⟨@ni2, @zo2⟩⟩⟩, ⟨⟨@in2, @bo2⟩, ⟨@st2, ⟨@ze2, @ag3⟩⟩⟩⟩⟩, ⟨⟨⟨⟨@sz3, @by3⟩, ⟨@un3, ⟨@ni3, @zo3⟩⟩⟩, ⟨⟨@in3, @bo3⟩, ⟨@st3, ⟨@ze3, @ag4⟩⟩⟩⟩, ⟨⟨⟨@sz4, @by4⟩, ⟨@un4, ⟨@ni4, @zo4⟩⟩⟩, ⟨⟨@bo4, @st4⟩, ⟨@ze4, ⟨@ag5, @sz5⟩⟩⟩⟩⟩⟩, ⟨⟨⟨⟨⟨@by5, @un5⟩, ⟨@ni5, ⟨@zo5, @in5⟩⟩⟩, ⟨⟨@bo5, @st5⟩, ⟨@ze5, ⟨@ag6, @sz6⟩⟩⟩⟩, ⟨⟨⟨@by6, @un6⟩, ⟨@ni6, ⟨@zo6, @in6⟩⟩⟩, ⟨⟨@bo6, @st6⟩, ⟨@ze6, ⟨@ag7, @sz7⟩⟩⟩⟩⟩, ⟨⟨⟨⟨@by7, @un7⟩, ⟨@ni7, ⟨@bo7, @st7⟩⟩⟩, ⟨⟨@ze7, @fi7⟩, ⟨@fa7_0, ⟨@ft7_0, @fa7_1⟩⟩⟩⟩, ⟨⟨⟨@ft7_1, @fa7_2⟩, ⟨@ft7_2, ⟨@fa7_3, @ft7_3⟩⟩⟩, ⟨⟨@ag8, ⟨@sz8, @by8⟩⟩, ⟨@un8, ⟨@ni8, @bo8⟩⟩⟩⟩⟩⟩⟩, ⟨⟨⟨⟨⟨⟨@st8, @ze8⟩, ⟨@fi8, ⟨@fa8_0, @ft8_0⟩⟩⟩, ⟨⟨@fa8_1, @ft8_1⟩, ⟨@fa8_2, ⟨@ft8_2, @fa8_3⟩⟩⟩⟩, ⟨⟨⟨@ft8_3, @ag9⟩, ⟨@sz9, ⟨@by9, @un9⟩⟩⟩, ⟨⟨@ni9, @zo9⟩, ⟨@bo9, ⟨@st9, @ze9⟩⟩⟩⟩⟩, ⟨⟨⟨⟨@ag10, @sz10⟩, ⟨@by10, ⟨@un10, @ni10⟩⟩⟩, ⟨⟨@zo10, @bo10⟩, ⟨@st10, ⟨@ze10, @ag11⟩⟩⟩⟩, ⟨⟨⟨@sz11, @by11⟩, ⟨@un11, ⟨@ni11, @zo11⟩⟩⟩, ⟨⟨@bo11, ⟨@st11, @ze11⟩⟩, ⟨@ag12, ⟨@sz12, @by12⟩⟩⟩⟩⟩⟩, ⟨⟨⟨⟨⟨@un12, @ni12⟩, ⟨@zo12, ⟨@in12, @bo12⟩⟩⟩, ⟨⟨@st12, @ze12⟩, ⟨@ag13, ⟨@sz13, @by13⟩⟩⟩⟩, ⟨⟨⟨@un13, @ni13⟩, ⟨@bo13, ⟨@st13, @ze13⟩⟩⟩, ⟨⟨@fi13, @fa13_0⟩, ⟨@ft13_0, ⟨@fa13_1, @ft13_1⟩⟩⟩⟩⟩, ⟨⟨⟨⟨@ag14, @sz14⟩, ⟨@by14, ⟨@un14, @ni14⟩⟩⟩, ⟨⟨@bo14, @st14⟩, ⟨@ze14, ⟨@fi14, @fa14_0⟩⟩⟩⟩, ⟨⟨⟨@ft14_0, @fa14_1⟩, ⟨@ft14_1, ⟨@nk15, @ag15⟩⟩⟩, ⟨⟨@sz15, ⟨@by15, @un15⟩⟩, ⟨@ni15, ⟨@zo15, @bo15⟩⟩⟩⟩⟩⟩⟩⟩, ⟨⟨⟨⟨⟨⟨⟨@st15, @ze15⟩, ⟨@nk16, ⟨@ag16, @sz16⟩⟩⟩, ⟨⟨@by16, @un16⟩, ⟨@ni16, ⟨@zo16, @bo16⟩⟩⟩⟩, ⟨⟨⟨@st16, @ze16⟩, ⟨@nk17, ⟨@ag17, @sz17⟩⟩⟩, ⟨⟨@by17, @un17⟩, ⟨@ni17, ⟨@zo17, @bo17⟩⟩⟩⟩⟩, ⟨⟨⟨⟨@st17, @ze17⟩, ⟨@ag18, ⟨@sz18, @by18⟩⟩⟩, ⟨⟨@un18, @ni18⟩, ⟨@bo18, ⟨@st18, @ze18⟩⟩⟩⟩, ⟨⟨⟨@fi18, @fa18_0⟩, ⟨@ft18_0, ⟨@ag19, @sz19⟩⟩⟩, ⟨⟨@by19, @un19⟩, ⟨@ni19, ⟨@bo19, @st19⟩⟩⟩⟩⟩⟩, ⟨⟨⟨⟨⟨@ze19, @fi19⟩, ⟨@fa19_0, ⟨@ft19_0, @nk20⟩⟩⟩, ⟨⟨@ag20, @sz20⟩, ⟨@by20, ⟨@un20, @ni20⟩⟩⟩⟩, ⟨⟨⟨@bo20, @st20⟩, ⟨@ze20, ⟨@ag21, @sz21⟩⟩⟩, ⟨⟨@by21, @un21⟩, ⟨@ni21, ⟨@zo21, @in21⟩⟩⟩⟩⟩, ⟨⟨⟨⟨@bo21, @st21⟩, ⟨@ze21, ⟨@ag22, @sz22⟩⟩⟩, ⟨⟨@by22, @un22⟩, ⟨@ni22, ⟨@bo22, @st22⟩⟩⟩⟩, ⟨⟨⟨@ze22, @fi22⟩, ⟨@fa22_0, ⟨@ft22_0, @fa22_1⟩⟩⟩, ⟨⟨@ft22_1, ⟨@ag23, @sz23⟩⟩, ⟨@by23, ⟨@un23, @ni23⟩⟩⟩⟩⟩⟩⟩, ⟨⟨⟨⟨⟨⟨@bo23, @st23⟩, ⟨@ze23, ⟨@eq23, @fi23⟩⟩⟩, ⟨⟨@fa23_0, @ft23_0⟩, ⟨@fa23_1, ⟨@ft23_1, @ag24⟩⟩⟩⟩, ⟨⟨⟨@sz24, @by24⟩, ⟨@un24, ⟨@ni24, @zo24⟩⟩⟩, ⟨⟨@in24, @bo24⟩, ⟨@st24, ⟨@ze24, @nk26⟩⟩⟩⟩⟩, ⟨⟨⟨⟨@ag26, @sz26⟩, ⟨@by26, ⟨@un26, @ni26⟩⟩⟩, ⟨⟨@bo26, @st26⟩, ⟨@ze26, ⟨@nk27, @ag27⟩⟩⟩⟩, ⟨⟨⟨@sz27, @by27⟩, ⟨@un27, ⟨@ni27, @bo27⟩⟩⟩, ⟨⟨@st27, ⟨@ze27, @nk28⟩⟩, ⟨@ag28, ⟨@sz28, @by28⟩⟩⟩⟩⟩⟩, ⟨⟨⟨⟨⟨@un28, @ni28⟩, ⟨@zo28, ⟨@el28, @bo28⟩⟩⟩, ⟨⟨@st28, @ze28⟩, ⟨@nk29, ⟨@ag29, @sz29⟩⟩⟩⟩, ⟨⟨⟨@by29, @un29⟩, ⟨@ni29, ⟨@bo29, @st29⟩⟩⟩, ⟨⟨@ze29, @nk30⟩, ⟨@ag30, ⟨@sz30, @by30⟩⟩⟩⟩⟩, ⟨⟨⟨⟨@un30, @ni30⟩, ⟨@zo30, ⟨@el30, @bo30⟩⟩⟩, ⟨⟨@st30, @ze30⟩, ⟨@nk32, ⟨@ag32, @sz32⟩⟩⟩⟩, ⟨⟨⟨@by32, @un32⟩, ⟨@ni32, ⟨@bo32, @st32⟩⟩⟩, ⟨⟨@ze32, ⟨@nk33, @ag33⟩⟩, ⟨@sz33, ⟨@by33, @un33⟩⟩⟩⟩⟩⟩⟩⟩⟩, ⟨⟨⟨⟨⟨⟨⟨⟨@ni33, @bo33⟩, ⟨@st33, ⟨@ze33, @nk34⟩⟩⟩, ⟨⟨@ag34, @sz34⟩, ⟨@by34, ⟨@un34, @ni34⟩⟩⟩⟩, ⟨⟨⟨@bo34, @st34⟩, ⟨@ze34, ⟨@nk35, @ag35⟩⟩⟩, ⟨⟨@sz35, @by35⟩, ⟨@un35, ⟨@ni35, @bo35⟩⟩⟩⟩⟩, ⟨⟨⟨⟨@st35, @ze35⟩, ⟨@nk37, ⟨@ag37, @sz37⟩⟩⟩, ⟨⟨@by37, @un37⟩, ⟨@ni37, ⟨@bo37, @st37⟩⟩⟩⟩, ⟨⟨⟨@ze37, @nk38⟩, ⟨@ag38, ⟨@sz38, @by38⟩⟩⟩, ⟨⟨@un38, @ni38⟩, ⟨@bo38, ⟨@st38, @ze38⟩⟩⟩⟩⟩⟩, ⟨⟨⟨⟨⟨@nk39, @ag39⟩, ⟨@sz39, ⟨@by39, @un39⟩⟩⟩, ⟨⟨@ni39, @bo39⟩, ⟨@st39, ⟨@ze39, @ag40⟩⟩⟩⟩, ⟨⟨⟨@sz40, @by40⟩, ⟨@un40, ⟨@ni40, @zo40⟩⟩⟩, ⟨⟨@in40, @bo40⟩, ⟨@st40, ⟨@ze40, @nk41⟩⟩⟩⟩⟩, ⟨⟨⟨⟨@ag41, @sz41⟩, ⟨@by41, ⟨@un41, @ni41⟩⟩⟩, ⟨⟨@bo41, @st41⟩, ⟨@ze41, ⟨@ag42, @sz42⟩⟩⟩⟩, ⟨⟨⟨@by42, @un42⟩, ⟨@ni42, ⟨@zo42, @in42⟩⟩⟩, ⟨⟨@bo42, ⟨@st42, @ze42⟩⟩, ⟨@nk43, ⟨@ag43, @sz43⟩⟩⟩⟩⟩⟩⟩, ⟨⟨⟨⟨⟨⟨@by43, @un43⟩, ⟨@ni43, ⟨@bo43, @st43⟩⟩⟩, ⟨⟨@ze43, @nk44⟩, ⟨@ag44, ⟨@sz44, @by44⟩⟩⟩⟩, ⟨⟨⟨@un44, @ni44⟩, ⟨@bo44, ⟨@st44, @ze44⟩⟩⟩, ⟨⟨@nk45, @ag45⟩, ⟨@sz45, ⟨@by45, @un45⟩⟩⟩⟩⟩, ⟨⟨⟨⟨@ni45, @bo45⟩, ⟨@st45, ⟨@ze45, @ag46⟩⟩⟩, ⟨⟨@sz46, @by46⟩, ⟨@un46, ⟨@ni46, @bo46⟩⟩⟩⟩, ⟨⟨⟨@st46, @ze46⟩, ⟨@fi46, ⟨@fa46_0, @ft46_0⟩⟩⟩, ⟨⟨@fa46_1, ⟨@ft46_1, @fa46_2⟩⟩, ⟨@ft46_2, ⟨@fa46_3, @ft46_3⟩⟩⟩⟩⟩⟩, ⟨⟨⟨⟨⟨@ag47, @sz47⟩, ⟨@by47, ⟨@un47, @ni47⟩⟩⟩, ⟨⟨@bo47, @st47⟩, ⟨@ze47, ⟨@fi47, @fa47_0⟩⟩⟩⟩, ⟨⟨⟨@ft47_0, @fa47_1⟩, ⟨@ft47_1, ⟨@fa47_2, @ft47_2⟩⟩⟩, ⟨⟨@fa47_3, @ft47_3⟩, ⟨@ag49, ⟨@sz49, @by49⟩⟩⟩⟩⟩, ⟨⟨⟨⟨@un49, @ni49⟩, ⟨@bo49, ⟨@st49, @ze49⟩⟩⟩, ⟨⟨@fi49, @ft49_0⟩, ⟨@ag50, ⟨@sz50, @by50⟩⟩⟩⟩, ⟨⟨⟨@un50, @ni50⟩, ⟨@bo50, ⟨@st50, @ze50⟩⟩⟩, ⟨⟨@fi50, ⟨@ft50_0, @nk51⟩⟩, ⟨@ag51, ⟨@sz51, @by51⟩⟩⟩⟩⟩⟩⟩⟩, ⟨⟨⟨⟨⟨⟨⟨@un51, @ni51⟩, ⟨@bo51, ⟨@st51, @ze51⟩⟩⟩, ⟨⟨@ag52, @sz52⟩, ⟨@by52, ⟨@un52, @ni52⟩⟩⟩⟩, ⟨⟨⟨@zo52, @in52⟩, ⟨@bo52, ⟨@st52, @ze52⟩⟩⟩, ⟨⟨@ag53, @sz53⟩, ⟨@by53, ⟨@un53, @ni53⟩⟩⟩⟩⟩, ⟨⟨⟨⟨@zo53, @in53⟩, ⟨@bo53, ⟨@st53, @ze53⟩⟩⟩, ⟨⟨@ag54, @sz54⟩, ⟨@by54, ⟨@un54, @ni54⟩⟩⟩⟩, ⟨⟨⟨@zo54, @in54⟩, ⟨@bo54, ⟨@st54, @ze54⟩⟩⟩, ⟨⟨@nk55, @ag55⟩, ⟨@sz55, ⟨@by55, @un55⟩⟩⟩⟩⟩⟩, ⟨⟨⟨⟨⟨@ni55, @bo55⟩, ⟨@st55, ⟨@ze55, @nk56⟩⟩⟩, ⟨⟨@ag56, @sz56⟩, ⟨@by56, ⟨@un56, @ni56⟩⟩⟩⟩, ⟨⟨⟨@zo56, @bo56⟩, ⟨@st56, ⟨@ze56, @ag57⟩⟩⟩, ⟨⟨@sz57, @by57⟩, ⟨@un57, ⟨@ni57, @zo57⟩⟩⟩⟩⟩, ⟨⟨⟨⟨@in57, @bo57⟩, ⟨@st57, ⟨@ze57, @ag58⟩⟩⟩, ⟨⟨@sz58, @by58⟩, ⟨@un58, ⟨@ni58, @zo58⟩⟩⟩⟩, ⟨⟨⟨@in58, @bo58⟩, ⟨@st58, ⟨@ze58, @ag59⟩⟩⟩, ⟨⟨@sz59, ⟨@by59, @un59⟩⟩, ⟨@ni59, ⟨@bo59, @st59⟩⟩⟩⟩⟩⟩⟩, ⟨⟨⟨⟨⟨⟨@ze59, @fi59⟩, ⟨@fa59_0, ⟨@ft59_0, @fa59_1⟩⟩⟩, ⟨⟨@ft59_1, @fa59_2⟩, ⟨@ft59_2, ⟨@fa59_3, @ft59_3⟩⟩⟩⟩, ⟨⟨⟨@fa59_4, @ft59_4⟩, ⟨@fa59_5, ⟨@ft59_5, @fa59_6⟩⟩⟩, ⟨⟨@ft59_6, @fa59_7⟩, ⟨@ft59_7, ⟨@fa59_8, @ft59_8⟩⟩⟩⟩⟩, ⟨⟨⟨⟨@fa59_9, @ft59_9⟩, ⟨@fa59_10, ⟨@ft59_10, @ag60⟩⟩⟩, ⟨⟨@sz60, @by60⟩, ⟨@un60, ⟨@ni60, @bo60⟩⟩⟩⟩, ⟨⟨⟨@st60, @ze60⟩, ⟨@fi60, ⟨@fa60_0, @ft60_0⟩⟩⟩, ⟨⟨@fa60_1, ⟨@ft60_1, @fa60_2⟩⟩, ⟨@ft60_2, ⟨@fa60_3, @ft60_3⟩⟩⟩⟩⟩⟩, ⟨⟨⟨⟨⟨@fa60_4, @ft60_4⟩, ⟨@fa60_5, ⟨@ft60_5, @fa60_6⟩⟩⟩, ⟨⟨@ft60_6, @fa60_7⟩, ⟨@ft60_7, ⟨@fa60_8, @ft60_8⟩⟩⟩⟩, ⟨⟨⟨@fa60_9, @ft60_9⟩, ⟨@fa60_10, ⟨@ft60_10, @ag61⟩⟩⟩, ⟨⟨@sz61, @by61⟩, ⟨@un61, ⟨@ni61, @bo61⟩⟩⟩⟩⟩, ⟨⟨⟨⟨@st61, @ze61⟩, ⟨@fo, ⟨@ca3, @ca4⟩⟩⟩, ⟨⟨@ca5, @ca6⟩, ⟨@ca7, ⟨@ca8, @ca9⟩⟩⟩⟩, ⟨⟨⟨@ca10, @ca11⟩, ⟨@ca12, ⟨@ca13, @ca14⟩⟩⟩, ⟨⟨@ca15, ⟨@ca16, @ca17⟩⟩, ⟨@ca18, ⟨@ca19, @ca20⟩⟩⟩⟩⟩⟩⟩⟩⟩⟩
end Go.Proofs.Ythpfjigkhbabnaa.E
