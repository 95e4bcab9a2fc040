/- Closed facts: what the walk asks of the program's table of types, and of its functions. No conditions. -/
import Derived.Test.YthpfjigkhbabnabEngN
import Derived.Test.YthpfjigkhbabnabProg
import Derived.KernelRfl
namespace Go.Proofs.Ythpfjigkhbabnab.E
open Go
theorem nk1 : tyNil Try.prog 1 = some .func := by kernel_rfl
theorem ag1 : tyAgg Try.prog 1 = some false := by kernel_rfl
theorem sz1 : tySz Try.prog 1 = some 1 := by kernel_rfl
theorem by1 : tyBy Try.prog 1 = some 8 := by kernel_rfl
theorem un1 : (Try.prog.underlying 1).isSome = true := by kernel_rfl
theorem ni1 : tyNoIf Try.prog 1 = true := by kernel_rfl
theorem bo1 : tyBool Try.prog 1 = false := by kernel_rfl
theorem st1 : tyStr Try.prog 1 = false := by kernel_rfl
theorem ze1 : tyZ Try.prog 1 = some [.val .nilFunc] := by kernel_rfl
theorem ag2 : tyAgg Try.prog 2 = some false := by kernel_rfl
theorem sz2 : tySz Try.prog 2 = some 1 := by kernel_rfl
theorem by2 : tyBy Try.prog 2 = some 8 := by kernel_rfl
theorem un2 : (Try.prog.underlying 2).isSome = true := by kernel_rfl
theorem ni2 : tyNoIf Try.prog 2 = true := by kernel_rfl
theorem zo2 : tyZ1 Try.prog 2 = some ((.int .i64 0)) := by kernel_rfl
theorem in2 : tyInt Try.prog 2 = some .i64 := by kernel_rfl
theorem bo2 : tyBool Try.prog 2 = false := by kernel_rfl
theorem st2 : tyStr Try.prog 2 = false := by kernel_rfl
theorem ze2 : tyZ Try.prog 2 = some [.val (.int .i64 0)] := by kernel_rfl
theorem ag3 : tyAgg Try.prog 3 = some false := by kernel_rfl
theorem sz3 : tySz Try.prog 3 = some 1 := by kernel_rfl
theorem by3 : tyBy Try.prog 3 = some 8 := by kernel_rfl
theorem un3 : (Try.prog.underlying 3).isSome = true := by kernel_rfl
theorem ni3 : tyNoIf Try.prog 3 = true := by kernel_rfl
theorem zo3 : tyZ1 Try.prog 3 = some ((.int .i64 0)) := by kernel_rfl
theorem in3 : tyInt Try.prog 3 = some .i64 := by kernel_rfl
theorem bo3 : tyBool Try.prog 3 = false := by kernel_rfl
theorem st3 : tyStr Try.prog 3 = false := by kernel_rfl
theorem ze3 : tyZ Try.prog 3 = some [.val (.int .i64 0)] := by kernel_rfl
theorem ag4 : tyAgg Try.prog 4 = some false := by kernel_rfl
theorem sz4 : tySz Try.prog 4 = some 1 := by kernel_rfl
theorem by4 : tyBy Try.prog 4 = some 1 := by kernel_rfl
theorem un4 : (Try.prog.underlying 4).isSome = true := by kernel_rfl
theorem ni4 : tyNoIf Try.prog 4 = true := by kernel_rfl
theorem zo4 : tyZ1 Try.prog 4 = some ((.bool false)) := by kernel_rfl
theorem bo4 : tyBool Try.prog 4 = true := by kernel_rfl
theorem st4 : tyStr Try.prog 4 = false := by kernel_rfl
theorem ze4 : tyZ Try.prog 4 = some [.val (.bool false)] := by kernel_rfl
theorem ag5 : tyAgg Try.prog 5 = some false := by kernel_rfl
theorem sz5 : tySz Try.prog 5 = some 1 := by kernel_rfl
theorem by5 : tyBy Try.prog 5 = some 1 := by kernel_rfl
theorem un5 : (Try.prog.underlying 5).isSome = true := by kernel_rfl
theorem ni5 : tyNoIf Try.prog 5 = true := by kernel_rfl
theorem zo5 : tyZ1 Try.prog 5 = some ((.int .u8 0)) := by kernel_rfl
theorem in5 : tyInt Try.prog 5 = some .u8 := by kernel_rfl
theorem bo5 : tyBool Try.prog 5 = false := by kernel_rfl
theorem st5 : tyStr Try.prog 5 = false := by kernel_rfl
theorem ze5 : tyZ Try.prog 5 = some [.val (.int .u8 0)] := by kernel_rfl
theorem ag6 : tyAgg Try.prog 6 = some false := by kernel_rfl
theorem sz6 : tySz Try.prog 6 = some 1 := by kernel_rfl
theorem by6 : tyBy Try.prog 6 = some 1 := by kernel_rfl
theorem un6 : (Try.prog.underlying 6).isSome = true := by kernel_rfl
theorem ni6 : tyNoIf Try.prog 6 = true := by kernel_rfl
theorem zo6 : tyZ1 Try.prog 6 = some ((.int .u8 0)) := by kernel_rfl
theorem in6 : tyInt Try.prog 6 = some .u8 := by kernel_rfl
theorem bo6 : tyBool Try.prog 6 = false := by kernel_rfl
theorem st6 : tyStr Try.prog 6 = false := by kernel_rfl
theorem ze6 : tyZ Try.prog 6 = some [.val (.int .u8 0)] := by kernel_rfl
theorem ag7 : tyAgg Try.prog 7 = some true := by kernel_rfl
theorem sz7 : tySz Try.prog 7 = some 4 := by kernel_rfl
theorem by7 : tyBy Try.prog 7 = some 24 := by kernel_rfl
theorem un7 : (Try.prog.underlying 7).isSome = true := by kernel_rfl
theorem ni7 : tyNoIf Try.prog 7 = true := by kernel_rfl
theorem bo7 : tyBool Try.prog 7 = false := by kernel_rfl
theorem st7 : tyStr Try.prog 7 = false := by kernel_rfl
theorem ze7 : tyZ Try.prog 7 = some [.val (.int .i64 0), .val (.int .i64 0), .val (.bool false), .val (.int .u8 0)] := by kernel_rfl
theorem fi7 : tyF Try.prog 7 = some [(0, 1), (1, 1), (2, 1), (3, 1)] := by kernel_rfl
theorem fa7_0 : tyFA Try.prog 7 0 = some 0 := by kernel_rfl
theorem ft7_0 : tyFT Try.prog 7 0 = some (0, 2) := by kernel_rfl
theorem fa7_1 : tyFA Try.prog 7 1 = some 1 := by kernel_rfl
theorem ft7_1 : tyFT Try.prog 7 1 = some (1, 3) := by kernel_rfl
theorem fa7_2 : tyFA Try.prog 7 2 = some 2 := by kernel_rfl
theorem ft7_2 : tyFT Try.prog 7 2 = some (2, 4) := by kernel_rfl
theorem fa7_3 : tyFA Try.prog 7 3 = some 3 := by kernel_rfl
theorem ft7_3 : tyFT Try.prog 7 3 = some (3, 6) := by kernel_rfl
theorem ag8 : tyAgg Try.prog 8 = some true := by kernel_rfl
theorem sz8 : tySz Try.prog 8 = some 4 := by kernel_rfl
theorem by8 : tyBy Try.prog 8 = some 24 := by kernel_rfl
theorem un8 : (Try.prog.underlying 8).isSome = true := by kernel_rfl
theorem ni8 : tyNoIf Try.prog 8 = true := by kernel_rfl
theorem bo8 : tyBool Try.prog 8 = false := by kernel_rfl
theorem st8 : tyStr Try.prog 8 = false := by kernel_rfl
theorem ze8 : tyZ Try.prog 8 = some [.val (.int .i64 0), .val (.int .i64 0), .val (.bool false), .val (.int .u8 0)] := by kernel_rfl
theorem fi8 : tyF Try.prog 8 = some [(0, 1), (1, 1), (2, 1), (3, 1)] := by kernel_rfl
theorem fa8_0 : tyFA Try.prog 8 0 = some 0 := by kernel_rfl
theorem ft8_0 : tyFT Try.prog 8 0 = some (0, 2) := by kernel_rfl
theorem fa8_1 : tyFA Try.prog 8 1 = some 1 := by kernel_rfl
theorem ft8_1 : tyFT Try.prog 8 1 = some (1, 3) := by kernel_rfl
theorem fa8_2 : tyFA Try.prog 8 2 = some 2 := by kernel_rfl
theorem ft8_2 : tyFT Try.prog 8 2 = some (2, 4) := by kernel_rfl
theorem fa8_3 : tyFA Try.prog 8 3 = some 3 := by kernel_rfl
theorem ft8_3 : tyFT Try.prog 8 3 = some (3, 6) := by kernel_rfl
theorem ag9 : tyAgg Try.prog 9 = some false := by kernel_rfl
theorem sz9 : tySz Try.prog 9 = some 1 := by kernel_rfl
theorem by9 : tyBy Try.prog 9 = some 16 := by kernel_rfl
theorem un9 : (Try.prog.underlying 9).isSome = true := by kernel_rfl
theorem ni9 : tyNoIf Try.prog 9 = true := by kernel_rfl
theorem zo9 : tyZ1 Try.prog 9 = some ((.string ⟨#[]⟩)) := by kernel_rfl
theorem bo9 : tyBool Try.prog 9 = false := by kernel_rfl
theorem st9 : tyStr Try.prog 9 = true := by kernel_rfl
theorem ze9 : tyZ Try.prog 9 = some [.val (.string ⟨#[]⟩)] := by kernel_rfl
theorem ag10 : tyAgg Try.prog 10 = some false := by kernel_rfl
theorem sz10 : tySz Try.prog 10 = some 1 := by kernel_rfl
theorem by10 : tyBy Try.prog 10 = some 16 := by kernel_rfl
theorem un10 : (Try.prog.underlying 10).isSome = true := by kernel_rfl
theorem ni10 : tyNoIf Try.prog 10 = true := by kernel_rfl
theorem zo10 : tyZ1 Try.prog 10 = some ((.string ⟨#[]⟩)) := by kernel_rfl
theorem bo10 : tyBool Try.prog 10 = false := by kernel_rfl
theorem st10 : tyStr Try.prog 10 = true := by kernel_rfl
theorem ze10 : tyZ Try.prog 10 = some [.val (.string ⟨#[]⟩)] := by kernel_rfl
theorem ag11 : tyAgg Try.prog 11 = some false := by kernel_rfl
theorem sz11 : tySz Try.prog 11 = some 1 := by kernel_rfl
theorem by11 : tyBy Try.prog 11 = some 16 := by kernel_rfl
theorem un11 : (Try.prog.underlying 11).isSome = true := by kernel_rfl
theorem ni11 : tyNoIf Try.prog 11 = true := by kernel_rfl
theorem zo11 : tyZ1 Try.prog 11 = some ((.string ⟨#[]⟩)) := by kernel_rfl
theorem bo11 : tyBool Try.prog 11 = false := by kernel_rfl
theorem st11 : tyStr Try.prog 11 = true := by kernel_rfl
theorem ze11 : tyZ Try.prog 11 = some [.val (.string ⟨#[]⟩)] := by kernel_rfl
theorem ag12 : tyAgg Try.prog 12 = some false := by kernel_rfl
theorem sz12 : tySz Try.prog 12 = some 1 := by kernel_rfl
theorem by12 : tyBy Try.prog 12 = some 8 := by kernel_rfl
theorem un12 : (Try.prog.underlying 12).isSome = true := by kernel_rfl
theorem ni12 : tyNoIf Try.prog 12 = true := by kernel_rfl
theorem zo12 : tyZ1 Try.prog 12 = some ((.int .u64 0)) := by kernel_rfl
theorem in12 : tyInt Try.prog 12 = some .u64 := by kernel_rfl
theorem bo12 : tyBool Try.prog 12 = false := by kernel_rfl
theorem st12 : tyStr Try.prog 12 = false := by kernel_rfl
theorem ze12 : tyZ Try.prog 12 = some [.val (.int .u64 0)] := by kernel_rfl
theorem ag13 : tyAgg Try.prog 13 = some true := by kernel_rfl
theorem sz13 : tySz Try.prog 13 = some 2 := by kernel_rfl
theorem by13 : tyBy Try.prog 13 = some 24 := by kernel_rfl
theorem un13 : (Try.prog.underlying 13).isSome = true := by kernel_rfl
theorem ni13 : tyNoIf Try.prog 13 = true := by kernel_rfl
theorem bo13 : tyBool Try.prog 13 = false := by kernel_rfl
theorem st13 : tyStr Try.prog 13 = false := by kernel_rfl
theorem ze13 : tyZ Try.prog 13 = some [.val (.string ⟨#[]⟩), .val (.int .u64 0)] := by kernel_rfl
theorem fi13 : tyF Try.prog 13 = some [(0, 1), (1, 1)] := by kernel_rfl
theorem fa13_0 : tyFA Try.prog 13 0 = some 0 := by kernel_rfl
theorem ft13_0 : tyFT Try.prog 13 0 = some (0, 9) := by kernel_rfl
theorem fa13_1 : tyFA Try.prog 13 1 = some 1 := by kernel_rfl
theorem ft13_1 : tyFT Try.prog 13 1 = some (1, 12) := by kernel_rfl
theorem ag14 : tyAgg Try.prog 14 = some true := by kernel_rfl
theorem sz14 : tySz Try.prog 14 = some 2 := by kernel_rfl
theorem by14 : tyBy Try.prog 14 = some 24 := by kernel_rfl
theorem un14 : (Try.prog.underlying 14).isSome = true := by kernel_rfl
theorem ni14 : tyNoIf Try.prog 14 = true := by kernel_rfl
theorem bo14 : tyBool Try.prog 14 = false := by kernel_rfl
theorem st14 : tyStr Try.prog 14 = false := by kernel_rfl
theorem ze14 : tyZ Try.prog 14 = some [.val (.string ⟨#[]⟩), .val (.int .u64 0)] := by kernel_rfl
theorem fi14 : tyF Try.prog 14 = some [(0, 1), (1, 1)] := by kernel_rfl
theorem fa14_0 : tyFA Try.prog 14 0 = some 0 := by kernel_rfl
theorem ft14_0 : tyFT Try.prog 14 0 = some (0, 9) := by kernel_rfl
theorem fa14_1 : tyFA Try.prog 14 1 = some 1 := by kernel_rfl
theorem ft14_1 : tyFT Try.prog 14 1 = some (1, 12) := by kernel_rfl
theorem nk15 : tyNil Try.prog 15 = some .pointer := by kernel_rfl
theorem ag15 : tyAgg Try.prog 15 = some false := by kernel_rfl
theorem sz15 : tySz Try.prog 15 = some 1 := by kernel_rfl
theorem by15 : tyBy Try.prog 15 = some 8 := by kernel_rfl
theorem un15 : (Try.prog.underlying 15).isSome = true := by kernel_rfl
theorem ni15 : tyNoIf Try.prog 15 = true := by kernel_rfl
theorem zo15 : tyZ1 Try.prog 15 = some ((.pointer none)) := by kernel_rfl
theorem bo15 : tyBool Try.prog 15 = false := by kernel_rfl
theorem st15 : tyStr Try.prog 15 = false := by kernel_rfl
theorem ze15 : tyZ Try.prog 15 = some [.val (.pointer none)] := by kernel_rfl
theorem nk16 : tyNil Try.prog 16 = some .pointer := by kernel_rfl
theorem ag16 : tyAgg Try.prog 16 = some false := by kernel_rfl
theorem sz16 : tySz Try.prog 16 = some 1 := by kernel_rfl
theorem by16 : tyBy Try.prog 16 = some 8 := by kernel_rfl
theorem un16 : (Try.prog.underlying 16).isSome = true := by kernel_rfl
theorem ni16 : tyNoIf Try.prog 16 = true := by kernel_rfl
theorem zo16 : tyZ1 Try.prog 16 = some ((.pointer none)) := by kernel_rfl
theorem bo16 : tyBool Try.prog 16 = false := by kernel_rfl
theorem st16 : tyStr Try.prog 16 = false := by kernel_rfl
theorem ze16 : tyZ Try.prog 16 = some [.val (.pointer none)] := by kernel_rfl
theorem nk17 : tyNil Try.prog 17 = some .pointer := by kernel_rfl
theorem ag17 : tyAgg Try.prog 17 = some false := by kernel_rfl
theorem sz17 : tySz Try.prog 17 = some 1 := by kernel_rfl
theorem by17 : tyBy Try.prog 17 = some 8 := by kernel_rfl
theorem un17 : (Try.prog.underlying 17).isSome = true := by kernel_rfl
theorem ni17 : tyNoIf Try.prog 17 = true := by kernel_rfl
theorem zo17 : tyZ1 Try.prog 17 = some ((.pointer none)) := by kernel_rfl
theorem bo17 : tyBool Try.prog 17 = false := by kernel_rfl
theorem st17 : tyStr Try.prog 17 = false := by kernel_rfl
theorem ze17 : tyZ Try.prog 17 = some [.val (.pointer none)] := by kernel_rfl
theorem ag18 : tyAgg Try.prog 18 = some true := by kernel_rfl
theorem sz18 : tySz Try.prog 18 = some 1 := by kernel_rfl
theorem by18 : tyBy Try.prog 18 = some 8 := by kernel_rfl
theorem un18 : (Try.prog.underlying 18).isSome = true := by kernel_rfl
theorem ni18 : tyNoIf Try.prog 18 = true := by kernel_rfl
theorem bo18 : tyBool Try.prog 18 = false := by kernel_rfl
theorem st18 : tyStr Try.prog 18 = false := by kernel_rfl
theorem ze18 : tyZ Try.prog 18 = some [.val (.pointer none)] := by kernel_rfl
theorem fi18 : tyF Try.prog 18 = some [(0, 1)] := by kernel_rfl
theorem fa18_0 : tyFA Try.prog 18 0 = some 0 := by kernel_rfl
theorem ft18_0 : tyFT Try.prog 18 0 = some (0, 17) := by kernel_rfl
theorem ag19 : tyAgg Try.prog 19 = some true := by kernel_rfl
theorem sz19 : tySz Try.prog 19 = some 1 := by kernel_rfl
theorem by19 : tyBy Try.prog 19 = some 8 := by kernel_rfl
theorem un19 : (Try.prog.underlying 19).isSome = true := by kernel_rfl
theorem ni19 : tyNoIf Try.prog 19 = true := by kernel_rfl
theorem bo19 : tyBool Try.prog 19 = false := by kernel_rfl
theorem st19 : tyStr Try.prog 19 = false := by kernel_rfl
theorem ze19 : tyZ Try.prog 19 = some [.val (.pointer none)] := by kernel_rfl
theorem fi19 : tyF Try.prog 19 = some [(0, 1)] := by kernel_rfl
theorem fa19_0 : tyFA Try.prog 19 0 = some 0 := by kernel_rfl
theorem ft19_0 : tyFT Try.prog 19 0 = some (0, 17) := by kernel_rfl
theorem nk20 : tyNil Try.prog 20 = some .iface := by kernel_rfl
theorem ag20 : tyAgg Try.prog 20 = some false := by kernel_rfl
theorem sz20 : tySz Try.prog 20 = some 1 := by kernel_rfl
theorem by20 : tyBy Try.prog 20 = some 16 := by kernel_rfl
theorem un20 : (Try.prog.underlying 20).isSome = true := by kernel_rfl
theorem ni20 : tyNoIf Try.prog 20 = false := by kernel_rfl
theorem bo20 : tyBool Try.prog 20 = false := by kernel_rfl
theorem st20 : tyStr Try.prog 20 = false := by kernel_rfl
theorem ze20 : tyZ Try.prog 20 = some [.val .nilIface] := by kernel_rfl
theorem ag21 : tyAgg Try.prog 21 = some false := by kernel_rfl
theorem sz21 : tySz Try.prog 21 = some 1 := by kernel_rfl
theorem by21 : tyBy Try.prog 21 = some 4 := by kernel_rfl
theorem un21 : (Try.prog.underlying 21).isSome = true := by kernel_rfl
theorem ni21 : tyNoIf Try.prog 21 = true := by kernel_rfl
theorem zo21 : tyZ1 Try.prog 21 = some ((.int .i32 0)) := by kernel_rfl
theorem in21 : tyInt Try.prog 21 = some .i32 := by kernel_rfl
theorem bo21 : tyBool Try.prog 21 = false := by kernel_rfl
theorem st21 : tyStr Try.prog 21 = false := by kernel_rfl
theorem ze21 : tyZ Try.prog 21 = some [.val (.int .i32 0)] := by kernel_rfl
theorem nk22 : tyNil Try.prog 22 = some .slice := by kernel_rfl
theorem ag22 : tyAgg Try.prog 22 = some false := by kernel_rfl
theorem sz22 : tySz Try.prog 22 = some 1 := by kernel_rfl
theorem by22 : tyBy Try.prog 22 = some 24 := by kernel_rfl
theorem un22 : (Try.prog.underlying 22).isSome = true := by kernel_rfl
theorem ni22 : tyNoIf Try.prog 22 = true := by kernel_rfl
theorem zo22 : tyZ1 Try.prog 22 = some ((.slice none 0 0)) := by kernel_rfl
theorem el22 : tyEl Try.prog 22 = some 3 := by kernel_rfl
theorem bo22 : tyBool Try.prog 22 = false := by kernel_rfl
theorem st22 : tyStr Try.prog 22 = false := by kernel_rfl
theorem ze22 : tyZ Try.prog 22 = some [.val (.slice none 0 0)] := by kernel_rfl
theorem ag23 : tyAgg Try.prog 23 = some false := by kernel_rfl
theorem sz23 : tySz Try.prog 23 = some 1 := by kernel_rfl
theorem by23 : tyBy Try.prog 23 = some 8 := by kernel_rfl
theorem un23 : (Try.prog.underlying 23).isSome = true := by kernel_rfl
theorem ni23 : tyNoIf Try.prog 23 = true := by kernel_rfl
theorem zo23 : tyZ1 Try.prog 23 = some ((.int .i64 0)) := by kernel_rfl
theorem in23 : tyInt Try.prog 23 = some .i64 := by kernel_rfl
theorem bo23 : tyBool Try.prog 23 = false := by kernel_rfl
theorem st23 : tyStr Try.prog 23 = false := by kernel_rfl
theorem ze23 : tyZ Try.prog 23 = some [.val (.int .i64 0)] := by kernel_rfl
theorem nk25 : tyNil Try.prog 25 = some .func := by kernel_rfl
theorem ag25 : tyAgg Try.prog 25 = some false := by kernel_rfl
theorem sz25 : tySz Try.prog 25 = some 1 := by kernel_rfl
theorem by25 : tyBy Try.prog 25 = some 8 := by kernel_rfl
theorem un25 : (Try.prog.underlying 25).isSome = true := by kernel_rfl
theorem ni25 : tyNoIf Try.prog 25 = true := by kernel_rfl
theorem bo25 : tyBool Try.prog 25 = false := by kernel_rfl
theorem st25 : tyStr Try.prog 25 = false := by kernel_rfl
theorem ze25 : tyZ Try.prog 25 = some [.val .nilFunc] := by kernel_rfl
theorem nk26 : tyNil Try.prog 26 = some .func := by kernel_rfl
theorem ag26 : tyAgg Try.prog 26 = some false := by kernel_rfl
theorem sz26 : tySz Try.prog 26 = some 1 := by kernel_rfl
theorem by26 : tyBy Try.prog 26 = some 8 := by kernel_rfl
theorem un26 : (Try.prog.underlying 26).isSome = true := by kernel_rfl
theorem ni26 : tyNoIf Try.prog 26 = true := by kernel_rfl
theorem bo26 : tyBool Try.prog 26 = false := by kernel_rfl
theorem st26 : tyStr Try.prog 26 = false := by kernel_rfl
theorem ze26 : tyZ Try.prog 26 = some [.val .nilFunc] := by kernel_rfl
theorem nk27 : tyNil Try.prog 27 = some .func := by kernel_rfl
theorem ag27 : tyAgg Try.prog 27 = some false := by kernel_rfl
theorem sz27 : tySz Try.prog 27 = some 1 := by kernel_rfl
theorem by27 : tyBy Try.prog 27 = some 8 := by kernel_rfl
theorem un27 : (Try.prog.underlying 27).isSome = true := by kernel_rfl
theorem ni27 : tyNoIf Try.prog 27 = true := by kernel_rfl
theorem bo27 : tyBool Try.prog 27 = false := by kernel_rfl
theorem st27 : tyStr Try.prog 27 = false := by kernel_rfl
theorem ze27 : tyZ Try.prog 27 = some [.val .nilFunc] := by kernel_rfl
theorem nk29 : tyNil Try.prog 29 = some .func := by kernel_rfl
theorem ag29 : tyAgg Try.prog 29 = some false := by kernel_rfl
theorem sz29 : tySz Try.prog 29 = some 1 := by kernel_rfl
theorem by29 : tyBy Try.prog 29 = some 8 := by kernel_rfl
theorem un29 : (Try.prog.underlying 29).isSome = true := by kernel_rfl
theorem ni29 : tyNoIf Try.prog 29 = true := by kernel_rfl
theorem bo29 : tyBool Try.prog 29 = false := by kernel_rfl
theorem st29 : tyStr Try.prog 29 = false := by kernel_rfl
theorem ze29 : tyZ Try.prog 29 = some [.val .nilFunc] := by kernel_rfl
theorem nk30 : tyNil Try.prog 30 = some .slice := by kernel_rfl
theorem ag30 : tyAgg Try.prog 30 = some false := by kernel_rfl
theorem sz30 : tySz Try.prog 30 = some 1 := by kernel_rfl
theorem by30 : tyBy Try.prog 30 = some 24 := by kernel_rfl
theorem un30 : (Try.prog.underlying 30).isSome = true := by kernel_rfl
theorem ni30 : tyNoIf Try.prog 30 = true := by kernel_rfl
theorem zo30 : tyZ1 Try.prog 30 = some ((.slice none 0 0)) := by kernel_rfl
theorem el30 : tyEl Try.prog 30 = some 23 := by kernel_rfl
theorem bo30 : tyBool Try.prog 30 = false := by kernel_rfl
theorem st30 : tyStr Try.prog 30 = false := by kernel_rfl
theorem ze30 : tyZ Try.prog 30 = some [.val (.slice none 0 0)] := by kernel_rfl
theorem nk31 : tyNil Try.prog 31 = some .func := by kernel_rfl
theorem ag31 : tyAgg Try.prog 31 = some false := by kernel_rfl
theorem sz31 : tySz Try.prog 31 = some 1 := by kernel_rfl
theorem by31 : tyBy Try.prog 31 = some 8 := by kernel_rfl
theorem un31 : (Try.prog.underlying 31).isSome = true := by kernel_rfl
theorem ni31 : tyNoIf Try.prog 31 = true := by kernel_rfl
theorem bo31 : tyBool Try.prog 31 = false := by kernel_rfl
theorem st31 : tyStr Try.prog 31 = false := by kernel_rfl
theorem ze31 : tyZ Try.prog 31 = some [.val .nilFunc] := by kernel_rfl
theorem nk32 : tyNil Try.prog 32 = some .slice := by kernel_rfl
theorem ag32 : tyAgg Try.prog 32 = some false := by kernel_rfl
theorem sz32 : tySz Try.prog 32 = some 1 := by kernel_rfl
theorem by32 : tyBy Try.prog 32 = some 24 := by kernel_rfl
theorem un32 : (Try.prog.underlying 32).isSome = true := by kernel_rfl
theorem ni32 : tyNoIf Try.prog 32 = true := by kernel_rfl
theorem zo32 : tyZ1 Try.prog 32 = some ((.slice none 0 0)) := by kernel_rfl
theorem el32 : tyEl Try.prog 32 = some 39 := by kernel_rfl
theorem bo32 : tyBool Try.prog 32 = false := by kernel_rfl
theorem st32 : tyStr Try.prog 32 = false := by kernel_rfl
theorem ze32 : tyZ Try.prog 32 = some [.val (.slice none 0 0)] := by kernel_rfl
theorem nk33 : tyNil Try.prog 33 = some .slice := by kernel_rfl
theorem ag33 : tyAgg Try.prog 33 = some false := by kernel_rfl
theorem sz33 : tySz Try.prog 33 = some 1 := by kernel_rfl
theorem by33 : tyBy Try.prog 33 = some 24 := by kernel_rfl
theorem un33 : (Try.prog.underlying 33).isSome = true := by kernel_rfl
theorem ni33 : tyNoIf Try.prog 33 = true := by kernel_rfl
theorem zo33 : tyZ1 Try.prog 33 = some ((.slice none 0 0)) := by kernel_rfl
theorem el33 : tyEl Try.prog 33 = some 9 := by kernel_rfl
theorem bo33 : tyBool Try.prog 33 = false := by kernel_rfl
theorem st33 : tyStr Try.prog 33 = false := by kernel_rfl
theorem ze33 : tyZ Try.prog 33 = some [.val (.slice none 0 0)] := by kernel_rfl
theorem ag34 : tyAgg Try.prog 34 = some true := by kernel_rfl
theorem sz34 : tySz Try.prog 34 = some 4 := by kernel_rfl
theorem by34 : tyBy Try.prog 34 = some 72 := by kernel_rfl
theorem un34 : (Try.prog.underlying 34).isSome = true := by kernel_rfl
theorem ni34 : tyNoIf Try.prog 34 = true := by kernel_rfl
theorem bo34 : tyBool Try.prog 34 = false := by kernel_rfl
theorem st34 : tyStr Try.prog 34 = false := by kernel_rfl
theorem ze34 : tyZ Try.prog 34 = some [.val (.string ⟨#[]⟩), .val (.int .i64 0), .val (.slice none 0 0), .val (.slice none 0 0)] := by kernel_rfl
theorem fi34 : tyF Try.prog 34 = some [(0, 1), (1, 1), (2, 1), (3, 1)] := by kernel_rfl
theorem fa34_0 : tyFA Try.prog 34 0 = some 0 := by kernel_rfl
theorem ft34_0 : tyFT Try.prog 34 0 = some (0, 9) := by kernel_rfl
theorem fa34_1 : tyFA Try.prog 34 1 = some 1 := by kernel_rfl
theorem ft34_1 : tyFT Try.prog 34 1 = some (1, 3) := by kernel_rfl
theorem fa34_2 : tyFA Try.prog 34 2 = some 2 := by kernel_rfl
theorem ft34_2 : tyFT Try.prog 34 2 = some (2, 32) := by kernel_rfl
theorem fa34_3 : tyFA Try.prog 34 3 = some 3 := by kernel_rfl
theorem ft34_3 : tyFT Try.prog 34 3 = some (3, 33) := by kernel_rfl
theorem ag35 : tyAgg Try.prog 35 = some true := by kernel_rfl
theorem sz35 : tySz Try.prog 35 = some 4 := by kernel_rfl
theorem by35 : tyBy Try.prog 35 = some 72 := by kernel_rfl
theorem un35 : (Try.prog.underlying 35).isSome = true := by kernel_rfl
theorem ni35 : tyNoIf Try.prog 35 = true := by kernel_rfl
theorem bo35 : tyBool Try.prog 35 = false := by kernel_rfl
theorem st35 : tyStr Try.prog 35 = false := by kernel_rfl
theorem ze35 : tyZ Try.prog 35 = some [.val (.string ⟨#[]⟩), .val (.int .i64 0), .val (.slice none 0 0), .val (.slice none 0 0)] := by kernel_rfl
theorem fi35 : tyF Try.prog 35 = some [(0, 1), (1, 1), (2, 1), (3, 1)] := by kernel_rfl
theorem fa35_0 : tyFA Try.prog 35 0 = some 0 := by kernel_rfl
theorem ft35_0 : tyFT Try.prog 35 0 = some (0, 9) := by kernel_rfl
theorem fa35_1 : tyFA Try.prog 35 1 = some 1 := by kernel_rfl
theorem ft35_1 : tyFT Try.prog 35 1 = some (1, 3) := by kernel_rfl
theorem fa35_2 : tyFA Try.prog 35 2 = some 2 := by kernel_rfl
theorem ft35_2 : tyFT Try.prog 35 2 = some (2, 32) := by kernel_rfl
theorem fa35_3 : tyFA Try.prog 35 3 = some 3 := by kernel_rfl
theorem ft35_3 : tyFT Try.prog 35 3 = some (3, 33) := by kernel_rfl
theorem nk37 : tyNil Try.prog 37 = some .func := by kernel_rfl
theorem ag37 : tyAgg Try.prog 37 = some false := by kernel_rfl
theorem sz37 : tySz Try.prog 37 = some 1 := by kernel_rfl
theorem by37 : tyBy Try.prog 37 = some 8 := by kernel_rfl
theorem un37 : (Try.prog.underlying 37).isSome = true := by kernel_rfl
theorem ni37 : tyNoIf Try.prog 37 = true := by kernel_rfl
theorem bo37 : tyBool Try.prog 37 = false := by kernel_rfl
theorem st37 : tyStr Try.prog 37 = false := by kernel_rfl
theorem ze37 : tyZ Try.prog 37 = some [.val .nilFunc] := by kernel_rfl
theorem ag38 : tyAgg Try.prog 38 = some true := by kernel_rfl
theorem sz38 : tySz Try.prog 38 = some 2 := by kernel_rfl
theorem by38 : tyBy Try.prog 38 = some 32 := by kernel_rfl
theorem un38 : (Try.prog.underlying 38).isSome = true := by kernel_rfl
theorem ni38 : tyNoIf Try.prog 38 = true := by kernel_rfl
theorem bo38 : tyBool Try.prog 38 = false := by kernel_rfl
theorem st38 : tyStr Try.prog 38 = false := by kernel_rfl
theorem ze38 : tyZ Try.prog 38 = some [.val (.string ⟨#[]⟩), .val (.string ⟨#[]⟩)] := by kernel_rfl
theorem fi38 : tyF Try.prog 38 = some [(0, 1), (1, 1)] := by kernel_rfl
theorem fa38_0 : tyFA Try.prog 38 0 = some 0 := by kernel_rfl
theorem ft38_0 : tyFT Try.prog 38 0 = some (0, 9) := by kernel_rfl
theorem fa38_1 : tyFA Try.prog 38 1 = some 1 := by kernel_rfl
theorem ft38_1 : tyFT Try.prog 38 1 = some (1, 9) := by kernel_rfl
theorem ag39 : tyAgg Try.prog 39 = some true := by kernel_rfl
theorem sz39 : tySz Try.prog 39 = some 2 := by kernel_rfl
theorem by39 : tyBy Try.prog 39 = some 32 := by kernel_rfl
theorem un39 : (Try.prog.underlying 39).isSome = true := by kernel_rfl
theorem ni39 : tyNoIf Try.prog 39 = true := by kernel_rfl
theorem bo39 : tyBool Try.prog 39 = false := by kernel_rfl
theorem st39 : tyStr Try.prog 39 = false := by kernel_rfl
theorem ze39 : tyZ Try.prog 39 = some [.val (.string ⟨#[]⟩), .val (.string ⟨#[]⟩)] := by kernel_rfl
theorem eq39 : tyEq Try.prog 39 = some [.str, .str] := by kernel_rfl
theorem fi39 : tyF Try.prog 39 = some [(0, 1), (1, 1)] := by kernel_rfl
theorem fa39_0 : tyFA Try.prog 39 0 = some 0 := by kernel_rfl
theorem ft39_0 : tyFT Try.prog 39 0 = some (0, 9) := by kernel_rfl
theorem fa39_1 : tyFA Try.prog 39 1 = some 1 := by kernel_rfl
theorem ft39_1 : tyFT Try.prog 39 1 = some (1, 9) := by kernel_rfl
theorem nk40 : tyNil Try.prog 40 = some .func := by kernel_rfl
theorem ag40 : tyAgg Try.prog 40 = some false := by kernel_rfl
theorem sz40 : tySz Try.prog 40 = some 1 := by kernel_rfl
theorem by40 : tyBy Try.prog 40 = some 8 := by kernel_rfl
theorem un40 : (Try.prog.underlying 40).isSome = true := by kernel_rfl
theorem ni40 : tyNoIf Try.prog 40 = true := by kernel_rfl
theorem bo40 : tyBool Try.prog 40 = false := by kernel_rfl
theorem st40 : tyStr Try.prog 40 = false := by kernel_rfl
theorem ze40 : tyZ Try.prog 40 = some [.val .nilFunc] := by kernel_rfl
theorem nk41 : tyNil Try.prog 41 = some .func := by kernel_rfl
theorem ag41 : tyAgg Try.prog 41 = some false := by kernel_rfl
theorem sz41 : tySz Try.prog 41 = some 1 := by kernel_rfl
theorem by41 : tyBy Try.prog 41 = some 8 := by kernel_rfl
theorem un41 : (Try.prog.underlying 41).isSome = true := by kernel_rfl
theorem ni41 : tyNoIf Try.prog 41 = true := by kernel_rfl
theorem bo41 : tyBool Try.prog 41 = false := by kernel_rfl
theorem st41 : tyStr Try.prog 41 = false := by kernel_rfl
theorem ze41 : tyZ Try.prog 41 = some [.val .nilFunc] := by kernel_rfl
theorem nk42 : tyNil Try.prog 42 = some .func := by kernel_rfl
theorem ag42 : tyAgg Try.prog 42 = some false := by kernel_rfl
theorem sz42 : tySz Try.prog 42 = some 1 := by kernel_rfl
theorem by42 : tyBy Try.prog 42 = some 8 := by kernel_rfl
theorem un42 : (Try.prog.underlying 42).isSome = true := by kernel_rfl
theorem ni42 : tyNoIf Try.prog 42 = true := by kernel_rfl
theorem bo42 : tyBool Try.prog 42 = false := by kernel_rfl
theorem st42 : tyStr Try.prog 42 = false := by kernel_rfl
theorem ze42 : tyZ Try.prog 42 = some [.val .nilFunc] := by kernel_rfl
theorem nk43 : tyNil Try.prog 43 = some .func := by kernel_rfl
theorem ag43 : tyAgg Try.prog 43 = some false := by kernel_rfl
theorem sz43 : tySz Try.prog 43 = some 1 := by kernel_rfl
theorem by43 : tyBy Try.prog 43 = some 8 := by kernel_rfl
theorem un43 : (Try.prog.underlying 43).isSome = true := by kernel_rfl
theorem ni43 : tyNoIf Try.prog 43 = true := by kernel_rfl
theorem bo43 : tyBool Try.prog 43 = false := by kernel_rfl
theorem st43 : tyStr Try.prog 43 = false := by kernel_rfl
theorem ze43 : tyZ Try.prog 43 = some [.val .nilFunc] := by kernel_rfl
theorem ag44 : tyAgg Try.prog 44 = some true := by kernel_rfl
theorem sz44 : tySz Try.prog 44 = some 2 := by kernel_rfl
theorem by44 : tyBy Try.prog 44 = some 16 := by kernel_rfl
theorem un44 : (Try.prog.underlying 44).isSome = true := by kernel_rfl
theorem ni44 : tyNoIf Try.prog 44 = true := by kernel_rfl
theorem bo44 : tyBool Try.prog 44 = false := by kernel_rfl
theorem st44 : tyStr Try.prog 44 = false := by kernel_rfl
theorem ze44 : tyZ Try.prog 44 = some [.val (.int .i64 0), .val (.int .i64 0)] := by kernel_rfl
theorem fi44 : tyF Try.prog 44 = some [(0, 1), (1, 1)] := by kernel_rfl
theorem fa44_0 : tyFA Try.prog 44 0 = some 0 := by kernel_rfl
theorem ft44_0 : tyFT Try.prog 44 0 = some (0, 3) := by kernel_rfl
theorem fa44_1 : tyFA Try.prog 44 1 = some 1 := by kernel_rfl
theorem ft44_1 : tyFT Try.prog 44 1 = some (1, 3) := by kernel_rfl
theorem ag45 : tyAgg Try.prog 45 = some true := by kernel_rfl
theorem sz45 : tySz Try.prog 45 = some 2 := by kernel_rfl
theorem by45 : tyBy Try.prog 45 = some 16 := by kernel_rfl
theorem un45 : (Try.prog.underlying 45).isSome = true := by kernel_rfl
theorem ni45 : tyNoIf Try.prog 45 = true := by kernel_rfl
theorem bo45 : tyBool Try.prog 45 = false := by kernel_rfl
theorem st45 : tyStr Try.prog 45 = false := by kernel_rfl
theorem ze45 : tyZ Try.prog 45 = some [.val (.int .i64 0), .val (.int .i64 0)] := by kernel_rfl
theorem eq45 : tyEq Try.prog 45 = some [.int .i64, .int .i64] := by kernel_rfl
theorem fi45 : tyF Try.prog 45 = some [(0, 1), (1, 1)] := by kernel_rfl
theorem fa45_0 : tyFA Try.prog 45 0 = some 0 := by kernel_rfl
theorem ft45_0 : tyFT Try.prog 45 0 = some (0, 3) := by kernel_rfl
theorem fa45_1 : tyFA Try.prog 45 1 = some 1 := by kernel_rfl
theorem ft45_1 : tyFT Try.prog 45 1 = some (1, 3) := by kernel_rfl
theorem nk46 : tyNil Try.prog 46 = some .func := by kernel_rfl
theorem ag46 : tyAgg Try.prog 46 = some false := by kernel_rfl
theorem sz46 : tySz Try.prog 46 = some 1 := by kernel_rfl
theorem by46 : tyBy Try.prog 46 = some 8 := by kernel_rfl
theorem un46 : (Try.prog.underlying 46).isSome = true := by kernel_rfl
theorem ni46 : tyNoIf Try.prog 46 = true := by kernel_rfl
theorem bo46 : tyBool Try.prog 46 = false := by kernel_rfl
theorem st46 : tyStr Try.prog 46 = false := by kernel_rfl
theorem ze46 : tyZ Try.prog 46 = some [.val .nilFunc] := by kernel_rfl
theorem nk48 : tyNil Try.prog 48 = some .func := by kernel_rfl
theorem ag48 : tyAgg Try.prog 48 = some false := by kernel_rfl
theorem sz48 : tySz Try.prog 48 = some 1 := by kernel_rfl
theorem by48 : tyBy Try.prog 48 = some 8 := by kernel_rfl
theorem un48 : (Try.prog.underlying 48).isSome = true := by kernel_rfl
theorem ni48 : tyNoIf Try.prog 48 = true := by kernel_rfl
theorem bo48 : tyBool Try.prog 48 = false := by kernel_rfl
theorem st48 : tyStr Try.prog 48 = false := by kernel_rfl
theorem ze48 : tyZ Try.prog 48 = some [.val .nilFunc] := by kernel_rfl
theorem nk49 : tyNil Try.prog 49 = some .func := by kernel_rfl
theorem ag49 : tyAgg Try.prog 49 = some false := by kernel_rfl
theorem sz49 : tySz Try.prog 49 = some 1 := by kernel_rfl
theorem by49 : tyBy Try.prog 49 = some 8 := by kernel_rfl
theorem un49 : (Try.prog.underlying 49).isSome = true := by kernel_rfl
theorem ni49 : tyNoIf Try.prog 49 = true := by kernel_rfl
theorem bo49 : tyBool Try.prog 49 = false := by kernel_rfl
theorem st49 : tyStr Try.prog 49 = false := by kernel_rfl
theorem ze49 : tyZ Try.prog 49 = some [.val .nilFunc] := by kernel_rfl
theorem nk50 : tyNil Try.prog 50 = some .func := by kernel_rfl
theorem ag50 : tyAgg Try.prog 50 = some false := by kernel_rfl
theorem sz50 : tySz Try.prog 50 = some 1 := by kernel_rfl
theorem by50 : tyBy Try.prog 50 = some 8 := by kernel_rfl
theorem un50 : (Try.prog.underlying 50).isSome = true := by kernel_rfl
theorem ni50 : tyNoIf Try.prog 50 = true := by kernel_rfl
theorem bo50 : tyBool Try.prog 50 = false := by kernel_rfl
theorem st50 : tyStr Try.prog 50 = false := by kernel_rfl
theorem ze50 : tyZ Try.prog 50 = some [.val .nilFunc] := by kernel_rfl
theorem nk51 : tyNil Try.prog 51 = some .slice := by kernel_rfl
theorem ag51 : tyAgg Try.prog 51 = some false := by kernel_rfl
theorem sz51 : tySz Try.prog 51 = some 1 := by kernel_rfl
theorem by51 : tyBy Try.prog 51 = some 24 := by kernel_rfl
theorem un51 : (Try.prog.underlying 51).isSome = true := by kernel_rfl
theorem ni51 : tyNoIf Try.prog 51 = true := by kernel_rfl
theorem zo51 : tyZ1 Try.prog 51 = some ((.slice none 0 0)) := by kernel_rfl
theorem el51 : tyEl Try.prog 51 = some 55 := by kernel_rfl
theorem bo51 : tyBool Try.prog 51 = false := by kernel_rfl
theorem st51 : tyStr Try.prog 51 = false := by kernel_rfl
theorem ze51 : tyZ Try.prog 51 = some [.val (.slice none 0 0)] := by kernel_rfl
theorem ag52 : tyAgg Try.prog 52 = some true := by kernel_rfl
theorem sz52 : tySz Try.prog 52 = some 3 := by kernel_rfl
theorem by52 : tyBy Try.prog 52 = some 24 := by kernel_rfl
theorem un52 : (Try.prog.underlying 52).isSome = true := by kernel_rfl
theorem ni52 : tyNoIf Try.prog 52 = true := by kernel_rfl
theorem bo52 : tyBool Try.prog 52 = false := by kernel_rfl
theorem st52 : tyStr Try.prog 52 = false := by kernel_rfl
theorem ze52 : tyZ Try.prog 52 = some [.val (.int .i64 0), .val (.int .i64 0), .val (.int .i64 0)] := by kernel_rfl
theorem fi52 : tyF Try.prog 52 = some [(0, 1), (1, 1), (2, 1)] := by kernel_rfl
theorem fa52_0 : tyFA Try.prog 52 0 = some 0 := by kernel_rfl
theorem ft52_0 : tyFT Try.prog 52 0 = some (0, 3) := by kernel_rfl
theorem fa52_1 : tyFA Try.prog 52 1 = some 1 := by kernel_rfl
theorem ft52_1 : tyFT Try.prog 52 1 = some (1, 3) := by kernel_rfl
theorem fa52_2 : tyFA Try.prog 52 2 = some 2 := by kernel_rfl
theorem ft52_2 : tyFT Try.prog 52 2 = some (2, 3) := by kernel_rfl
theorem ag53 : tyAgg Try.prog 53 = some true := by kernel_rfl
theorem sz53 : tySz Try.prog 53 = some 3 := by kernel_rfl
theorem by53 : tyBy Try.prog 53 = some 24 := by kernel_rfl
theorem un53 : (Try.prog.underlying 53).isSome = true := by kernel_rfl
theorem ni53 : tyNoIf Try.prog 53 = true := by kernel_rfl
theorem bo53 : tyBool Try.prog 53 = false := by kernel_rfl
theorem st53 : tyStr Try.prog 53 = false := by kernel_rfl
theorem ze53 : tyZ Try.prog 53 = some [.val (.int .i64 0), .val (.int .i64 0), .val (.int .i64 0)] := by kernel_rfl
theorem eq53 : tyEq Try.prog 53 = some [.int .i64, .int .i64, .int .i64] := by kernel_rfl
theorem fi53 : tyF Try.prog 53 = some [(0, 1), (1, 1), (2, 1)] := by kernel_rfl
theorem fa53_0 : tyFA Try.prog 53 0 = some 0 := by kernel_rfl
theorem ft53_0 : tyFT Try.prog 53 0 = some (0, 3) := by kernel_rfl
theorem fa53_1 : tyFA Try.prog 53 1 = some 1 := by kernel_rfl
theorem ft53_1 : tyFT Try.prog 53 1 = some (1, 3) := by kernel_rfl
theorem fa53_2 : tyFA Try.prog 53 2 = some 2 := by kernel_rfl
theorem ft53_2 : tyFT Try.prog 53 2 = some (2, 3) := by kernel_rfl
theorem ag54 : tyAgg Try.prog 54 = some true := by kernel_rfl
theorem sz54 : tySz Try.prog 54 = some 6 := by kernel_rfl
theorem by54 : tyBy Try.prog 54 = some 48 := by kernel_rfl
theorem un54 : (Try.prog.underlying 54).isSome = true := by kernel_rfl
theorem ni54 : tyNoIf Try.prog 54 = true := by kernel_rfl
theorem bo54 : tyBool Try.prog 54 = false := by kernel_rfl
theorem st54 : tyStr Try.prog 54 = false := by kernel_rfl
theorem ze54 : tyZ Try.prog 54 = some [.val (.int .i64 0), .val (.int .i64 0), .val (.int .i64 0), .val (.int .i64 0), .val (.int .i64 0), .val (.bool false)] := by kernel_rfl
theorem fi54 : tyF Try.prog 54 = some [(0, 1), (1, 1), (2, 1), (3, 1), (4, 1), (5, 1)] := by kernel_rfl
theorem fa54_0 : tyFA Try.prog 54 0 = some 0 := by kernel_rfl
theorem ft54_0 : tyFT Try.prog 54 0 = some (0, 3) := by kernel_rfl
theorem fa54_1 : tyFA Try.prog 54 1 = some 1 := by kernel_rfl
theorem ft54_1 : tyFT Try.prog 54 1 = some (1, 3) := by kernel_rfl
theorem fa54_2 : tyFA Try.prog 54 2 = some 2 := by kernel_rfl
theorem ft54_2 : tyFT Try.prog 54 2 = some (2, 3) := by kernel_rfl
theorem fa54_3 : tyFA Try.prog 54 3 = some 3 := by kernel_rfl
theorem ft54_3 : tyFT Try.prog 54 3 = some (3, 3) := by kernel_rfl
theorem fa54_4 : tyFA Try.prog 54 4 = some 4 := by kernel_rfl
theorem ft54_4 : tyFT Try.prog 54 4 = some (4, 3) := by kernel_rfl
theorem fa54_5 : tyFA Try.prog 54 5 = some 5 := by kernel_rfl
theorem ft54_5 : tyFT Try.prog 54 5 = some (5, 4) := by kernel_rfl
theorem ag55 : tyAgg Try.prog 55 = some true := by kernel_rfl
theorem sz55 : tySz Try.prog 55 = some 6 := by kernel_rfl
theorem by55 : tyBy Try.prog 55 = some 48 := by kernel_rfl
theorem un55 : (Try.prog.underlying 55).isSome = true := by kernel_rfl
theorem ni55 : tyNoIf Try.prog 55 = true := by kernel_rfl
theorem bo55 : tyBool Try.prog 55 = false := by kernel_rfl
theorem st55 : tyStr Try.prog 55 = false := by kernel_rfl
theorem ze55 : tyZ Try.prog 55 = some [.val (.int .i64 0), .val (.int .i64 0), .val (.int .i64 0), .val (.int .i64 0), .val (.int .i64 0), .val (.bool false)] := by kernel_rfl
theorem eq55 : tyEq Try.prog 55 = some [.int .i64, .int .i64, .int .i64, .int .i64, .int .i64, .bool] := by kernel_rfl
theorem fi55 : tyF Try.prog 55 = some [(0, 1), (1, 1), (2, 1), (3, 1), (4, 1), (5, 1)] := by kernel_rfl
theorem fa55_0 : tyFA Try.prog 55 0 = some 0 := by kernel_rfl
theorem ft55_0 : tyFT Try.prog 55 0 = some (0, 3) := by kernel_rfl
theorem fa55_1 : tyFA Try.prog 55 1 = some 1 := by kernel_rfl
theorem ft55_1 : tyFT Try.prog 55 1 = some (1, 3) := by kernel_rfl
theorem fa55_2 : tyFA Try.prog 55 2 = some 2 := by kernel_rfl
theorem ft55_2 : tyFT Try.prog 55 2 = some (2, 3) := by kernel_rfl
theorem fa55_3 : tyFA Try.prog 55 3 = some 3 := by kernel_rfl
theorem ft55_3 : tyFT Try.prog 55 3 = some (3, 3) := by kernel_rfl
theorem fa55_4 : tyFA Try.prog 55 4 = some 4 := by kernel_rfl
theorem ft55_4 : tyFT Try.prog 55 4 = some (4, 3) := by kernel_rfl
theorem fa55_5 : tyFA Try.prog 55 5 = some 5 := by kernel_rfl
theorem ft55_5 : tyFT Try.prog 55 5 = some (5, 4) := by kernel_rfl
theorem nk56 : tyNil Try.prog 56 = some .func := by kernel_rfl
theorem ag56 : tyAgg Try.prog 56 = some false := by kernel_rfl
theorem sz56 : tySz Try.prog 56 = some 1 := by kernel_rfl
theorem by56 : tyBy Try.prog 56 = some 8 := by kernel_rfl
theorem un56 : (Try.prog.underlying 56).isSome = true := by kernel_rfl
theorem ni56 : tyNoIf Try.prog 56 = true := by kernel_rfl
theorem bo56 : tyBool Try.prog 56 = false := by kernel_rfl
theorem st56 : tyStr Try.prog 56 = false := by kernel_rfl
theorem ze56 : tyZ Try.prog 56 = some [.val .nilFunc] := by kernel_rfl
theorem nk57 : tyNil Try.prog 57 = some .func := by kernel_rfl
theorem ag57 : tyAgg Try.prog 57 = some false := by kernel_rfl
theorem sz57 : tySz Try.prog 57 = some 1 := by kernel_rfl
theorem by57 : tyBy Try.prog 57 = some 8 := by kernel_rfl
theorem un57 : (Try.prog.underlying 57).isSome = true := by kernel_rfl
theorem ni57 : tyNoIf Try.prog 57 = true := by kernel_rfl
theorem bo57 : tyBool Try.prog 57 = false := by kernel_rfl
theorem st57 : tyStr Try.prog 57 = false := by kernel_rfl
theorem ze57 : tyZ Try.prog 57 = some [.val .nilFunc] := by kernel_rfl
theorem nk58 : tyNil Try.prog 58 = some .func := by kernel_rfl
theorem ag58 : tyAgg Try.prog 58 = some false := by kernel_rfl
theorem sz58 : tySz Try.prog 58 = some 1 := by kernel_rfl
theorem by58 : tyBy Try.prog 58 = some 8 := by kernel_rfl
theorem un58 : (Try.prog.underlying 58).isSome = true := by kernel_rfl
theorem ni58 : tyNoIf Try.prog 58 = true := by kernel_rfl
theorem bo58 : tyBool Try.prog 58 = false := by kernel_rfl
theorem st58 : tyStr Try.prog 58 = false := by kernel_rfl
theorem ze58 : tyZ Try.prog 58 = some [.val .nilFunc] := by kernel_rfl
theorem nk59 : tyNil Try.prog 59 = some .func := by kernel_rfl
theorem ag59 : tyAgg Try.prog 59 = some false := by kernel_rfl
theorem sz59 : tySz Try.prog 59 = some 1 := by kernel_rfl
theorem by59 : tyBy Try.prog 59 = some 8 := by kernel_rfl
theorem un59 : (Try.prog.underlying 59).isSome = true := by kernel_rfl
theorem ni59 : tyNoIf Try.prog 59 = true := by kernel_rfl
theorem bo59 : tyBool Try.prog 59 = false := by kernel_rfl
theorem st59 : tyStr Try.prog 59 = false := by kernel_rfl
theorem ze59 : tyZ Try.prog 59 = some [.val .nilFunc] := by kernel_rfl
theorem nk60 : tyNil Try.prog 60 = some .func := by kernel_rfl
theorem ag60 : tyAgg Try.prog 60 = some false := by kernel_rfl
theorem sz60 : tySz Try.prog 60 = some 1 := by kernel_rfl
theorem by60 : tyBy Try.prog 60 = some 8 := by kernel_rfl
theorem un60 : (Try.prog.underlying 60).isSome = true := by kernel_rfl
theorem ni60 : tyNoIf Try.prog 60 = true := by kernel_rfl
theorem bo60 : tyBool Try.prog 60 = false := by kernel_rfl
theorem st60 : tyStr Try.prog 60 = false := by kernel_rfl
theorem ze60 : tyZ Try.prog 60 = some [.val .nilFunc] := by kernel_rfl
theorem nk61 : tyNil Try.prog 61 = some .func := by kernel_rfl
theorem ag61 : tyAgg Try.prog 61 = some false := by kernel_rfl
theorem sz61 : tySz Try.prog 61 = some 1 := by kernel_rfl
theorem by61 : tyBy Try.prog 61 = some 8 := by kernel_rfl
theorem un61 : (Try.prog.underlying 61).isSome = true := by kernel_rfl
theorem ni61 : tyNoIf Try.prog 61 = true := by kernel_rfl
theorem bo61 : tyBool Try.prog 61 = false := by kernel_rfl
theorem st61 : tyStr Try.prog 61 = false := by kernel_rfl
theorem ze61 : tyZ Try.prog 61 = some [.val .nilFunc] := by kernel_rfl
theorem ag62 : tyAgg Try.prog 62 = some false := by kernel_rfl
theorem sz62 : tySz Try.prog 62 = some 1 := by kernel_rfl
theorem by62 : tyBy Try.prog 62 = some 8 := by kernel_rfl
theorem un62 : (Try.prog.underlying 62).isSome = true := by kernel_rfl
theorem ni62 : tyNoIf Try.prog 62 = true := by kernel_rfl
theorem zo62 : tyZ1 Try.prog 62 = some ((.int .u64 0)) := by kernel_rfl
theorem in62 : tyInt Try.prog 62 = some .u64 := by kernel_rfl
theorem bo62 : tyBool Try.prog 62 = false := by kernel_rfl
theorem st62 : tyStr Try.prog 62 = false := by kernel_rfl
theorem ze62 : tyZ Try.prog 62 = some [.val (.int .u64 0)] := by kernel_rfl
theorem nk63 : tyNil Try.prog 63 = some .func := by kernel_rfl
theorem ag63 : tyAgg Try.prog 63 = some false := by kernel_rfl
theorem sz63 : tySz Try.prog 63 = some 1 := by kernel_rfl
theorem by63 : tyBy Try.prog 63 = some 8 := by kernel_rfl
theorem un63 : (Try.prog.underlying 63).isSome = true := by kernel_rfl
theorem ni63 : tyNoIf Try.prog 63 = true := by kernel_rfl
theorem bo63 : tyBool Try.prog 63 = false := by kernel_rfl
theorem st63 : tyStr Try.prog 63 = false := by kernel_rfl
theorem ze63 : tyZ Try.prog 63 = some [.val .nilFunc] := by kernel_rfl
theorem nk64 : tyNil Try.prog 64 = some .func := by kernel_rfl
theorem ag64 : tyAgg Try.prog 64 = some false := by kernel_rfl
theorem sz64 : tySz Try.prog 64 = some 1 := by kernel_rfl
theorem by64 : tyBy Try.prog 64 = some 8 := by kernel_rfl
theorem un64 : (Try.prog.underlying 64).isSome = true := by kernel_rfl
theorem ni64 : tyNoIf Try.prog 64 = true := by kernel_rfl
theorem bo64 : tyBool Try.prog 64 = false := by kernel_rfl
theorem st64 : tyStr Try.prog 64 = false := by kernel_rfl
theorem ze64 : tyZ Try.prog 64 = some [.val .nilFunc] := by kernel_rfl
theorem nk65 : tyNil Try.prog 65 = some .func := by kernel_rfl
theorem ag65 : tyAgg Try.prog 65 = some false := by kernel_rfl
theorem sz65 : tySz Try.prog 65 = some 1 := by kernel_rfl
theorem by65 : tyBy Try.prog 65 = some 8 := by kernel_rfl
theorem un65 : (Try.prog.underlying 65).isSome = true := by kernel_rfl
theorem ni65 : tyNoIf Try.prog 65 = true := by kernel_rfl
theorem bo65 : tyBool Try.prog 65 = false := by kernel_rfl
theorem st65 : tyStr Try.prog 65 = false := by kernel_rfl
theorem ze65 : tyZ Try.prog 65 = some [.val .nilFunc] := by kernel_rfl
theorem nk66 : tyNil Try.prog 66 = some .func := by kernel_rfl
theorem ag66 : tyAgg Try.prog 66 = some false := by kernel_rfl
theorem sz66 : tySz Try.prog 66 = some 1 := by kernel_rfl
theorem by66 : tyBy Try.prog 66 = some 8 := by kernel_rfl
theorem un66 : (Try.prog.underlying 66).isSome = true := by kernel_rfl
theorem ni66 : tyNoIf Try.prog 66 = true := by kernel_rfl
theorem bo66 : tyBool Try.prog 66 = false := by kernel_rfl
theorem st66 : tyStr Try.prog 66 = false := by kernel_rfl
theorem ze66 : tyZ Try.prog 66 = some [.val .nilFunc] := by kernel_rfl
theorem nk67 : tyNil Try.prog 67 = some .func := by kernel_rfl
theorem ag67 : tyAgg Try.prog 67 = some false := by kernel_rfl
theorem sz67 : tySz Try.prog 67 = some 1 := by kernel_rfl
theorem by67 : tyBy Try.prog 67 = some 8 := by kernel_rfl
theorem un67 : (Try.prog.underlying 67).isSome = true := by kernel_rfl
theorem ni67 : tyNoIf Try.prog 67 = true := by kernel_rfl
theorem bo67 : tyBool Try.prog 67 = false := by kernel_rfl
theorem st67 : tyStr Try.prog 67 = false := by kernel_rfl
theorem ze67 : tyZ Try.prog 67 = some [.val .nilFunc] := by kernel_rfl
theorem ag68 : tyAgg Try.prog 68 = some false := by kernel_rfl
theorem sz68 : tySz Try.prog 68 = some 1 := by kernel_rfl
theorem by68 : tyBy Try.prog 68 = some 8 := by kernel_rfl
theorem un68 : (Try.prog.underlying 68).isSome = true := by kernel_rfl
theorem ni68 : tyNoIf Try.prog 68 = true := by kernel_rfl
theorem zo68 : tyZ1 Try.prog 68 = some ((.int .u64 0)) := by kernel_rfl
theorem in68 : tyInt Try.prog 68 = some .u64 := by kernel_rfl
theorem bo68 : tyBool Try.prog 68 = false := by kernel_rfl
theorem st68 : tyStr Try.prog 68 = false := by kernel_rfl
theorem ze68 : tyZ Try.prog 68 = some [.val (.int .u64 0)] := by kernel_rfl
theorem nk69 : tyNil Try.prog 69 = some .func := by kernel_rfl
theorem ag69 : tyAgg Try.prog 69 = some false := by kernel_rfl
theorem sz69 : tySz Try.prog 69 = some 1 := by kernel_rfl
theorem by69 : tyBy Try.prog 69 = some 8 := by kernel_rfl
theorem un69 : (Try.prog.underlying 69).isSome = true := by kernel_rfl
theorem ni69 : tyNoIf Try.prog 69 = true := by kernel_rfl
theorem bo69 : tyBool Try.prog 69 = false := by kernel_rfl
theorem st69 : tyStr Try.prog 69 = false := by kernel_rfl
theorem ze69 : tyZ Try.prog 69 = some [.val .nilFunc] := by kernel_rfl
theorem nk70 : tyNil Try.prog 70 = some .func := by kernel_rfl
theorem ag70 : tyAgg Try.prog 70 = some false := by kernel_rfl
theorem sz70 : tySz Try.prog 70 = some 1 := by kernel_rfl
theorem by70 : tyBy Try.prog 70 = some 8 := by kernel_rfl
theorem un70 : (Try.prog.underlying 70).isSome = true := by kernel_rfl
theorem ni70 : tyNoIf Try.prog 70 = true := by kernel_rfl
theorem bo70 : tyBool Try.prog 70 = false := by kernel_rfl
theorem st70 : tyStr Try.prog 70 = false := by kernel_rfl
theorem ze70 : tyZ Try.prog 70 = some [.val .nilFunc] := by kernel_rfl
theorem nk71 : tyNil Try.prog 71 = some .func := by kernel_rfl
theorem ag71 : tyAgg Try.prog 71 = some false := by kernel_rfl
theorem sz71 : tySz Try.prog 71 = some 1 := by kernel_rfl
theorem by71 : tyBy Try.prog 71 = some 8 := by kernel_rfl
theorem un71 : (Try.prog.underlying 71).isSome = true := by kernel_rfl
theorem ni71 : tyNoIf Try.prog 71 = true := by kernel_rfl
theorem bo71 : tyBool Try.prog 71 = false := by kernel_rfl
theorem st71 : tyStr Try.prog 71 = false := by kernel_rfl
theorem ze71 : tyZ Try.prog 71 = some [.val .nilFunc] := by kernel_rfl
theorem nk72 : tyNil Try.prog 72 = some .func := by kernel_rfl
theorem ag72 : tyAgg Try.prog 72 = some false := by kernel_rfl
theorem sz72 : tySz Try.prog 72 = some 1 := by kernel_rfl
theorem by72 : tyBy Try.prog 72 = some 8 := by kernel_rfl
theorem un72 : (Try.prog.underlying 72).isSome = true := by kernel_rfl
theorem ni72 : tyNoIf Try.prog 72 = true := by kernel_rfl
theorem bo72 : tyBool Try.prog 72 = false := by kernel_rfl
theorem st72 : tyStr Try.prog 72 = false := by kernel_rfl
theorem ze72 : tyZ Try.prog 72 = some [.val .nilFunc] := by kernel_rfl
theorem nk73 : tyNil Try.prog 73 = some .func := by kernel_rfl
theorem ag73 : tyAgg Try.prog 73 = some false := by kernel_rfl
theorem sz73 : tySz Try.prog 73 = some 1 := by kernel_rfl
theorem by73 : tyBy Try.prog 73 = some 8 := by kernel_rfl
theorem un73 : (Try.prog.underlying 73).isSome = true := by kernel_rfl
theorem ni73 : tyNoIf Try.prog 73 = true := by kernel_rfl
theorem bo73 : tyBool Try.prog 73 = false := by kernel_rfl
theorem st73 : tyStr Try.prog 73 = false := by kernel_rfl
theorem ze73 : tyZ Try.prog 73 = some [.val .nilFunc] := by kernel_rfl
theorem ag74 : tyAgg Try.prog 74 = some false := by kernel_rfl
theorem sz74 : tySz Try.prog 74 = some 1 := by kernel_rfl
theorem by74 : tyBy Try.prog 74 = some 4 := by kernel_rfl
theorem un74 : (Try.prog.underlying 74).isSome = true := by kernel_rfl
theorem ni74 : tyNoIf Try.prog 74 = true := by kernel_rfl
theorem zo74 : tyZ1 Try.prog 74 = some ((.int .u32 0)) := by kernel_rfl
theorem in74 : tyInt Try.prog 74 = some .u32 := by kernel_rfl
theorem bo74 : tyBool Try.prog 74 = false := by kernel_rfl
theorem st74 : tyStr Try.prog 74 = false := by kernel_rfl
theorem ze74 : tyZ Try.prog 74 = some [.val (.int .u32 0)] := by kernel_rfl
theorem nk75 : tyNil Try.prog 75 = some .func := by kernel_rfl
theorem ag75 : tyAgg Try.prog 75 = some false := by kernel_rfl
theorem sz75 : tySz Try.prog 75 = some 1 := by kernel_rfl
theorem by75 : tyBy Try.prog 75 = some 8 := by kernel_rfl
theorem un75 : (Try.prog.underlying 75).isSome = true := by kernel_rfl
theorem ni75 : tyNoIf Try.prog 75 = true := by kernel_rfl
theorem bo75 : tyBool Try.prog 75 = false := by kernel_rfl
theorem st75 : tyStr Try.prog 75 = false := by kernel_rfl
theorem ze75 : tyZ Try.prog 75 = some [.val .nilFunc] := by kernel_rfl
theorem nk76 : tyNil Try.prog 76 = some .func := by kernel_rfl
theorem ag76 : tyAgg Try.prog 76 = some false := by kernel_rfl
theorem sz76 : tySz Try.prog 76 = some 1 := by kernel_rfl
theorem by76 : tyBy Try.prog 76 = some 8 := by kernel_rfl
theorem un76 : (Try.prog.underlying 76).isSome = true := by kernel_rfl
theorem ni76 : tyNoIf Try.prog 76 = true := by kernel_rfl
theorem bo76 : tyBool Try.prog 76 = false := by kernel_rfl
theorem st76 : tyStr Try.prog 76 = false := by kernel_rfl
theorem ze76 : tyZ Try.prog 76 = some [.val .nilFunc] := by kernel_rfl
theorem ag77 : tyAgg Try.prog 77 = some true := by kernel_rfl
theorem sz77 : tySz Try.prog 77 = some 4 := by kernel_rfl
theorem by77 : tyBy Try.prog 77 = some 40 := by kernel_rfl
theorem un77 : (Try.prog.underlying 77).isSome = true := by kernel_rfl
theorem ni77 : tyNoIf Try.prog 77 = true := by kernel_rfl
theorem bo77 : tyBool Try.prog 77 = false := by kernel_rfl
theorem st77 : tyStr Try.prog 77 = false := by kernel_rfl
theorem ze77 : tyZ Try.prog 77 = some [.val (.pointer none), .val (.pointer none), .val (.pointer none), .val (.string ⟨#[]⟩)] := by kernel_rfl
theorem fi77 : tyF Try.prog 77 = some [(0, 1), (1, 1), (2, 1), (3, 1)] := by kernel_rfl
theorem fa77_0 : tyFA Try.prog 77 0 = some 0 := by kernel_rfl
theorem ft77_0 : tyFT Try.prog 77 0 = some (0, 17) := by kernel_rfl
theorem fa77_1 : tyFA Try.prog 77 1 = some 1 := by kernel_rfl
theorem ft77_1 : tyFT Try.prog 77 1 = some (1, 17) := by kernel_rfl
theorem fa77_2 : tyFA Try.prog 77 2 = some 2 := by kernel_rfl
theorem ft77_2 : tyFT Try.prog 77 2 = some (2, 17) := by kernel_rfl
theorem fa77_3 : tyFA Try.prog 77 3 = some 3 := by kernel_rfl
theorem ft77_3 : tyFT Try.prog 77 3 = some (3, 9) := by kernel_rfl
theorem ag78 : tyAgg Try.prog 78 = some true := by kernel_rfl
theorem sz78 : tySz Try.prog 78 = some 4 := by kernel_rfl
theorem by78 : tyBy Try.prog 78 = some 40 := by kernel_rfl
theorem un78 : (Try.prog.underlying 78).isSome = true := by kernel_rfl
theorem ni78 : tyNoIf Try.prog 78 = true := by kernel_rfl
theorem bo78 : tyBool Try.prog 78 = false := by kernel_rfl
theorem st78 : tyStr Try.prog 78 = false := by kernel_rfl
theorem ze78 : tyZ Try.prog 78 = some [.val (.pointer none), .val (.pointer none), .val (.pointer none), .val (.string ⟨#[]⟩)] := by kernel_rfl
theorem fi78 : tyF Try.prog 78 = some [(0, 1), (1, 1), (2, 1), (3, 1)] := by kernel_rfl
theorem fa78_0 : tyFA Try.prog 78 0 = some 0 := by kernel_rfl
theorem ft78_0 : tyFT Try.prog 78 0 = some (0, 17) := by kernel_rfl
theorem fa78_1 : tyFA Try.prog 78 1 = some 1 := by kernel_rfl
theorem ft78_1 : tyFT Try.prog 78 1 = some (1, 17) := by kernel_rfl
theorem fa78_2 : tyFA Try.prog 78 2 = some 2 := by kernel_rfl
theorem ft78_2 : tyFT Try.prog 78 2 = some (2, 17) := by kernel_rfl
theorem fa78_3 : tyFA Try.prog 78 3 = some 3 := by kernel_rfl
theorem ft78_3 : tyFT Try.prog 78 3 = some (3, 9) := by kernel_rfl
theorem ag80 : tyAgg Try.prog 80 = some true := by kernel_rfl
theorem sz80 : tySz Try.prog 80 = some 0 := by kernel_rfl
theorem by80 : tyBy Try.prog 80 = some 0 := by kernel_rfl
theorem un80 : (Try.prog.underlying 80).isSome = true := by kernel_rfl
theorem ni80 : tyNoIf Try.prog 80 = true := by kernel_rfl
theorem bo80 : tyBool Try.prog 80 = false := by kernel_rfl
theorem st80 : tyStr Try.prog 80 = false := by kernel_rfl
theorem ze80 : tyZ Try.prog 80 = some [] := by kernel_rfl
theorem fi80 : tyF Try.prog 80 = some [(0, 0)] := by kernel_rfl
theorem ft80_0 : tyFT Try.prog 80 0 = some (0, 79) := by kernel_rfl
theorem ag81 : tyAgg Try.prog 81 = some true := by kernel_rfl
theorem sz81 : tySz Try.prog 81 = some 0 := by kernel_rfl
theorem by81 : tyBy Try.prog 81 = some 0 := by kernel_rfl
theorem un81 : (Try.prog.underlying 81).isSome = true := by kernel_rfl
theorem ni81 : tyNoIf Try.prog 81 = true := by kernel_rfl
theorem bo81 : tyBool Try.prog 81 = false := by kernel_rfl
theorem st81 : tyStr Try.prog 81 = false := by kernel_rfl
theorem ze81 : tyZ Try.prog 81 = some [] := by kernel_rfl
theorem fi81 : tyF Try.prog 81 = some [(0, 0)] := by kernel_rfl
theorem ft81_0 : tyFT Try.prog 81 0 = some (0, 79) := by kernel_rfl
theorem nk82 : tyNil Try.prog 82 = some .func := by kernel_rfl
theorem ag82 : tyAgg Try.prog 82 = some false := by kernel_rfl
theorem sz82 : tySz Try.prog 82 = some 1 := by kernel_rfl
theorem by82 : tyBy Try.prog 82 = some 8 := by kernel_rfl
theorem un82 : (Try.prog.underlying 82).isSome = true := by kernel_rfl
theorem ni82 : tyNoIf Try.prog 82 = true := by kernel_rfl
theorem bo82 : tyBool Try.prog 82 = false := by kernel_rfl
theorem st82 : tyStr Try.prog 82 = false := by kernel_rfl
theorem ze82 : tyZ Try.prog 82 = some [.val .nilFunc] := by kernel_rfl
theorem ag83 : tyAgg Try.prog 83 = some false := by kernel_rfl
theorem sz83 : tySz Try.prog 83 = some 1 := by kernel_rfl
theorem by83 : tyBy Try.prog 83 = some 1 := by kernel_rfl
theorem un83 : (Try.prog.underlying 83).isSome = true := by kernel_rfl
theorem ni83 : tyNoIf Try.prog 83 = true := by kernel_rfl
theorem zo83 : tyZ1 Try.prog 83 = some ((.int .u8 0)) := by kernel_rfl
theorem in83 : tyInt Try.prog 83 = some .u8 := by kernel_rfl
theorem bo83 : tyBool Try.prog 83 = false := by kernel_rfl
theorem st83 : tyStr Try.prog 83 = false := by kernel_rfl
theorem ze83 : tyZ Try.prog 83 = some [.val (.int .u8 0)] := by kernel_rfl
theorem ag84 : tyAgg Try.prog 84 = some false := by kernel_rfl
theorem sz84 : tySz Try.prog 84 = some 1 := by kernel_rfl
theorem by84 : tyBy Try.prog 84 = some 1 := by kernel_rfl
theorem un84 : (Try.prog.underlying 84).isSome = true := by kernel_rfl
theorem ni84 : tyNoIf Try.prog 84 = true := by kernel_rfl
theorem zo84 : tyZ1 Try.prog 84 = some ((.int .u8 0)) := by kernel_rfl
theorem in84 : tyInt Try.prog 84 = some .u8 := by kernel_rfl
theorem bo84 : tyBool Try.prog 84 = false := by kernel_rfl
theorem st84 : tyStr Try.prog 84 = false := by kernel_rfl
theorem ze84 : tyZ Try.prog 84 = some [.val (.int .u8 0)] := by kernel_rfl
theorem nk85 : tyNil Try.prog 85 = some .func := by kernel_rfl
theorem ag85 : tyAgg Try.prog 85 = some false := by kernel_rfl
theorem sz85 : tySz Try.prog 85 = some 1 := by kernel_rfl
theorem by85 : tyBy Try.prog 85 = some 8 := by kernel_rfl
theorem un85 : (Try.prog.underlying 85).isSome = true := by kernel_rfl
theorem ni85 : tyNoIf Try.prog 85 = true := by kernel_rfl
theorem bo85 : tyBool Try.prog 85 = false := by kernel_rfl
theorem st85 : tyStr Try.prog 85 = false := by kernel_rfl
theorem ze85 : tyZ Try.prog 85 = some [.val .nilFunc] := by kernel_rfl
theorem nk86 : tyNil Try.prog 86 = some .pointer := by kernel_rfl
theorem ag86 : tyAgg Try.prog 86 = some false := by kernel_rfl
theorem sz86 : tySz Try.prog 86 = some 1 := by kernel_rfl
theorem by86 : tyBy Try.prog 86 = some 8 := by kernel_rfl
theorem un86 : (Try.prog.underlying 86).isSome = true := by kernel_rfl
theorem ni86 : tyNoIf Try.prog 86 = true := by kernel_rfl
theorem zo86 : tyZ1 Try.prog 86 = some ((.pointer none)) := by kernel_rfl
theorem bo86 : tyBool Try.prog 86 = false := by kernel_rfl
theorem st86 : tyStr Try.prog 86 = false := by kernel_rfl
theorem ze86 : tyZ Try.prog 86 = some [.val (.pointer none)] := by kernel_rfl
theorem ag87 : tyAgg Try.prog 87 = some false := by kernel_rfl
theorem sz87 : tySz Try.prog 87 = some 1 := by kernel_rfl
theorem by87 : tyBy Try.prog 87 = some 4 := by kernel_rfl
theorem un87 : (Try.prog.underlying 87).isSome = true := by kernel_rfl
theorem ni87 : tyNoIf Try.prog 87 = true := by kernel_rfl
theorem zo87 : tyZ1 Try.prog 87 = some ((.int .i32 0)) := by kernel_rfl
theorem in87 : tyInt Try.prog 87 = some .i32 := by kernel_rfl
theorem bo87 : tyBool Try.prog 87 = false := by kernel_rfl
theorem st87 : tyStr Try.prog 87 = false := by kernel_rfl
theorem ze87 : tyZ Try.prog 87 = some [.val (.int .i32 0)] := by kernel_rfl
theorem ag88 : tyAgg Try.prog 88 = some false := by kernel_rfl
theorem sz88 : tySz Try.prog 88 = some 1 := by kernel_rfl
theorem by88 : tyBy Try.prog 88 = some 4 := by kernel_rfl
theorem un88 : (Try.prog.underlying 88).isSome = true := by kernel_rfl
theorem ni88 : tyNoIf Try.prog 88 = true := by kernel_rfl
theorem zo88 : tyZ1 Try.prog 88 = some ((.int .i32 0)) := by kernel_rfl
theorem in88 : tyInt Try.prog 88 = some .i32 := by kernel_rfl
theorem bo88 : tyBool Try.prog 88 = false := by kernel_rfl
theorem st88 : tyStr Try.prog 88 = false := by kernel_rfl
theorem ze88 : tyZ Try.prog 88 = some [.val (.int .i32 0)] := by kernel_rfl
theorem ag89 : tyAgg Try.prog 89 = some true := by kernel_rfl
theorem sz89 : tySz Try.prog 89 = some 11 := by kernel_rfl
theorem by89 : tyBy Try.prog 89 = some 48 := by kernel_rfl
theorem un89 : (Try.prog.underlying 89).isSome = true := by kernel_rfl
theorem ni89 : tyNoIf Try.prog 89 = true := by kernel_rfl
theorem bo89 : tyBool Try.prog 89 = false := by kernel_rfl
theorem st89 : tyStr Try.prog 89 = false := by kernel_rfl
theorem ze89 : tyZ Try.prog 89 = some [.val (.int .u64 0), .val (.int .u64 0), .val (.int .u32 0), .val (.int .u8 0), .val (.int .u8 0), .val (.int .u8 0), .val (.int .u8 0), .val .nilFunc, .val (.pointer none), .val (.int .i32 0), .val (.int .i32 0)] := by kernel_rfl
theorem fi89 : tyF Try.prog 89 = some [(0, 1), (1, 1), (2, 1), (3, 1), (4, 1), (5, 1), (6, 1), (7, 1), (8, 1), (9, 1), (10, 1)] := by kernel_rfl
theorem fa89_0 : tyFA Try.prog 89 0 = some 0 := by kernel_rfl
theorem ft89_0 : tyFT Try.prog 89 0 = some (0, 12) := by kernel_rfl
theorem fa89_1 : tyFA Try.prog 89 1 = some 1 := by kernel_rfl
theorem ft89_1 : tyFT Try.prog 89 1 = some (1, 12) := by kernel_rfl
theorem fa89_2 : tyFA Try.prog 89 2 = some 2 := by kernel_rfl
theorem ft89_2 : tyFT Try.prog 89 2 = some (2, 74) := by kernel_rfl
theorem fa89_3 : tyFA Try.prog 89 3 = some 3 := by kernel_rfl
theorem ft89_3 : tyFT Try.prog 89 3 = some (3, 83) := by kernel_rfl
theorem fa89_4 : tyFA Try.prog 89 4 = some 4 := by kernel_rfl
theorem ft89_4 : tyFT Try.prog 89 4 = some (4, 5) := by kernel_rfl
theorem fa89_5 : tyFA Try.prog 89 5 = some 5 := by kernel_rfl
theorem ft89_5 : tyFT Try.prog 89 5 = some (5, 5) := by kernel_rfl
theorem fa89_6 : tyFA Try.prog 89 6 = some 6 := by kernel_rfl
theorem ft89_6 : tyFT Try.prog 89 6 = some (6, 84) := by kernel_rfl
theorem fa89_7 : tyFA Try.prog 89 7 = some 7 := by kernel_rfl
theorem ft89_7 : tyFT Try.prog 89 7 = some (7, 85) := by kernel_rfl
theorem fa89_8 : tyFA Try.prog 89 8 = some 8 := by kernel_rfl
theorem ft89_8 : tyFT Try.prog 89 8 = some (8, 86) := by kernel_rfl
theorem fa89_9 : tyFA Try.prog 89 9 = some 9 := by kernel_rfl
theorem ft89_9 : tyFT Try.prog 89 9 = some (9, 87) := by kernel_rfl
theorem fa89_10 : tyFA Try.prog 89 10 = some 10 := by kernel_rfl
theorem ft89_10 : tyFT Try.prog 89 10 = some (10, 88) := by kernel_rfl
theorem ag90 : tyAgg Try.prog 90 = some true := by kernel_rfl
theorem sz90 : tySz Try.prog 90 = some 11 := by kernel_rfl
theorem by90 : tyBy Try.prog 90 = some 48 := by kernel_rfl
theorem un90 : (Try.prog.underlying 90).isSome = true := by kernel_rfl
theorem ni90 : tyNoIf Try.prog 90 = true := by kernel_rfl
theorem bo90 : tyBool Try.prog 90 = false := by kernel_rfl
theorem st90 : tyStr Try.prog 90 = false := by kernel_rfl
theorem ze90 : tyZ Try.prog 90 = some [.val (.int .u64 0), .val (.int .u64 0), .val (.int .u32 0), .val (.int .u8 0), .val (.int .u8 0), .val (.int .u8 0), .val (.int .u8 0), .val .nilFunc, .val (.pointer none), .val (.int .i32 0), .val (.int .i32 0)] := by kernel_rfl
theorem fi90 : tyF Try.prog 90 = some [(0, 1), (1, 1), (2, 1), (3, 1), (4, 1), (5, 1), (6, 1), (7, 1), (8, 1), (9, 1), (10, 1)] := by kernel_rfl
theorem fa90_0 : tyFA Try.prog 90 0 = some 0 := by kernel_rfl
theorem ft90_0 : tyFT Try.prog 90 0 = some (0, 12) := by kernel_rfl
theorem fa90_1 : tyFA Try.prog 90 1 = some 1 := by kernel_rfl
theorem ft90_1 : tyFT Try.prog 90 1 = some (1, 12) := by kernel_rfl
theorem fa90_2 : tyFA Try.prog 90 2 = some 2 := by kernel_rfl
theorem ft90_2 : tyFT Try.prog 90 2 = some (2, 74) := by kernel_rfl
theorem fa90_3 : tyFA Try.prog 90 3 = some 3 := by kernel_rfl
theorem ft90_3 : tyFT Try.prog 90 3 = some (3, 83) := by kernel_rfl
theorem fa90_4 : tyFA Try.prog 90 4 = some 4 := by kernel_rfl
theorem ft90_4 : tyFT Try.prog 90 4 = some (4, 5) := by kernel_rfl
theorem fa90_5 : tyFA Try.prog 90 5 = some 5 := by kernel_rfl
theorem ft90_5 : tyFT Try.prog 90 5 = some (5, 5) := by kernel_rfl
theorem fa90_6 : tyFA Try.prog 90 6 = some 6 := by kernel_rfl
theorem ft90_6 : tyFT Try.prog 90 6 = some (6, 84) := by kernel_rfl
theorem fa90_7 : tyFA Try.prog 90 7 = some 7 := by kernel_rfl
theorem ft90_7 : tyFT Try.prog 90 7 = some (7, 85) := by kernel_rfl
theorem fa90_8 : tyFA Try.prog 90 8 = some 8 := by kernel_rfl
theorem ft90_8 : tyFT Try.prog 90 8 = some (8, 86) := by kernel_rfl
theorem fa90_9 : tyFA Try.prog 90 9 = some 9 := by kernel_rfl
theorem ft90_9 : tyFT Try.prog 90 9 = some (9, 87) := by kernel_rfl
theorem fa90_10 : tyFA Try.prog 90 10 = some 10 := by kernel_rfl
theorem ft90_10 : tyFT Try.prog 90 10 = some (10, 88) := by kernel_rfl
theorem ag91 : tyAgg Try.prog 91 = some false := by kernel_rfl
theorem sz91 : tySz Try.prog 91 = some 1 := by kernel_rfl
theorem by91 : tyBy Try.prog 91 = some 8 := by kernel_rfl
theorem un91 : (Try.prog.underlying 91).isSome = true := by kernel_rfl
theorem ni91 : tyNoIf Try.prog 91 = true := by kernel_rfl
theorem bo91 : tyBool Try.prog 91 = false := by kernel_rfl
theorem st91 : tyStr Try.prog 91 = false := by kernel_rfl
theorem ze91 : tyZ Try.prog 91 = some [.val (.pointer none)] := by kernel_rfl
theorem fo : Try.prog.follows .mixedOrders = true := by kernel_rfl
theorem ca3 : callable Try.prog 3 = true := by kernel_rfl
theorem ca4 : callable Try.prog 4 = true := by kernel_rfl
theorem ca5 : callable Try.prog 5 = true := by kernel_rfl
theorem ca6 : callable Try.prog 6 = true := by kernel_rfl
theorem ca7 : callable Try.prog 7 = true := by kernel_rfl
theorem ca8 : callable Try.prog 8 = true := by kernel_rfl
theorem ca9 : callable Try.prog 9 = true := by kernel_rfl
theorem ca10 : callable Try.prog 10 = true := by kernel_rfl
theorem ca11 : callable Try.prog 11 = true := by kernel_rfl
theorem ca12 : callable Try.prog 12 = true := by kernel_rfl
theorem ca13 : callable Try.prog 13 = true := by kernel_rfl
theorem ca14 : callable Try.prog 14 = true := by kernel_rfl
theorem ca15 : callable Try.prog 15 = true := by kernel_rfl
theorem ca16 : callable Try.prog 16 = true := by kernel_rfl
theorem ca17 : callable Try.prog 17 = true := by kernel_rfl
theorem ca18 : callable Try.prog 18 = true := by kernel_rfl
theorem ca19 : callable Try.prog 19 = true := by kernel_rfl
theorem ca20 : callable Try.prog 20 = true := by kernel_rfl
theorem ca21 : callable Try.prog 21 = true := by kernel_rfl
theorem ca22 : callable Try.prog 22 = true := by kernel_rfl
theorem ca23 : callable Try.prog 23 = true := by kernel_rfl
theorem ca24 : callable Try.prog 24 = true := by kernel_rfl
theorem ca25 : callable Try.prog 25 = true := by kernel_rfl
theorem ca26 : callable Try.prog 26 = true := by kernel_rfl
theorem ca27 : callable Try.prog 27 = true := by kernel_rfl
theorem ca28 : callable Try.prog 28 = true := by kernel_rfl
theorem ca29 : callable Try.prog 29 = true := by kernel_rfl
theorem ca30 : callable Try.prog 30 = true := by kernel_rfl
theorem ca31 : callable Try.prog 31 = true := by kernel_rfl
theorem ca32 : callable Try.prog 32 = true := by kernel_rfl
theorem ca33 : callable Try.prog 33 = true := by kernel_rfl
theorem ca34 : callable Try.prog 34 = true := by kernel_rfl
theorem ca35 : callable Try.prog 35 = true := by kernel_rfl
theorem ca36 : callable Try.prog 36 = true := by kernel_rfl
theorem tabs : (((((((((type_of% @nk1) ∧ ((type_of% @ag1) ∧ (type_of% @sz1))) ∧ (((type_of% @by1) ∧ (type_of% @un1)) ∧ ((type_of% @ni1) ∧ (type_of% @bo1)))) ∧ ((((type_of% @st1) ∧ (type_of% @ze1)) ∧ ((type_of% @ag2) ∧ (type_of% @sz2))) ∧ (((type_of% @by2) ∧ (type_of% @un2)) ∧ ((type_of% @ni2) ∧ (type_of% @zo2))))) ∧ (((((type_of% @in2) ∧ (type_of% @bo2)) ∧ ((type_of% @st2) ∧ (type_of% @ze2))) ∧ (((type_of% @ag3) ∧ (type_of% @sz3)) ∧ ((type_of% @by3) ∧ (type_of% @un3)))) ∧ ((((type_of% @ni3) ∧ (type_of% @zo3)) ∧ ((type_of% @in3) ∧ (type_of% @bo3))) ∧ (((type_of% @st3) ∧ (type_of% @ze3)) ∧ ((type_of% @ag4) ∧ (type_of% @sz4)))))) ∧ (((((type_of% @by4) ∧ ((type_of% @un4) ∧ (type_of% @ni4))) ∧ (((type_of% @zo4) ∧ (type_of% @bo4)) ∧ ((type_of% @st4) ∧ (type_of% @ze4)))) ∧ ((((type_of% @ag5) ∧ (type_of% @sz5)) ∧ ((type_of% @by5) ∧ (type_of% @un5))) ∧ (((type_of% @ni5) ∧ (type_of% @zo5)) ∧ ((type_of% @in5) ∧ (type_of% @bo5))))) ∧ (((((type_of% @st5) ∧ (type_of% @ze5)) ∧ ((type_of% @ag6) ∧ (type_of% @sz6))) ∧ (((type_of% @by6) ∧ (type_of% @un6)) ∧ ((type_of% @ni6) ∧ (type_of% @zo6)))) ∧ ((((type_of% @in6) ∧ (type_of% @bo6)) ∧ ((type_of% @st6) ∧ (type_of% @ze6))) ∧ (((type_of% @ag7) ∧ (type_of% @sz7)) ∧ ((type_of% @by7) ∧ (type_of% @un7))))))) ∧ ((((((type_of% @ni7) ∧ ((type_of% @bo7) ∧ (type_of% @st7))) ∧ (((type_of% @ze7) ∧ (type_of% @fi7)) ∧ ((type_of% @fa7_0) ∧ (type_of% @ft7_0)))) ∧ ((((type_of% @fa7_1) ∧ (type_of% @ft7_1)) ∧ ((type_of% @fa7_2) ∧ (type_of% @ft7_2))) ∧ (((type_of% @fa7_3) ∧ (type_of% @ft7_3)) ∧ ((type_of% @ag8) ∧ (type_of% @sz8))))) ∧ (((((type_of% @by8) ∧ (type_of% @un8)) ∧ ((type_of% @ni8) ∧ (type_of% @bo8))) ∧ (((type_of% @st8) ∧ (type_of% @ze8)) ∧ ((type_of% @fi8) ∧ (type_of% @fa8_0)))) ∧ ((((type_of% @ft8_0) ∧ (type_of% @fa8_1)) ∧ ((type_of% @ft8_1) ∧ (type_of% @fa8_2))) ∧ (((type_of% @ft8_2) ∧ (type_of% @fa8_3)) ∧ ((type_of% @ft8_3) ∧ (type_of% @ag9)))))) ∧ (((((type_of% @sz9) ∧ ((type_of% @by9) ∧ (type_of% @un9))) ∧ (((type_of% @ni9) ∧ (type_of% @zo9)) ∧ ((type_of% @bo9) ∧ (type_of% @st9)))) ∧ ((((type_of% @ze9) ∧ (type_of% @ag10)) ∧ ((type_of% @sz10) ∧ (type_of% @by10))) ∧ (((type_of% @un10) ∧ (type_of% @ni10)) ∧ ((type_of% @zo10) ∧ (type_of% @bo10))))) ∧ (((((type_of% @st10) ∧ (type_of% @ze10)) ∧ ((type_of% @ag11) ∧ (type_of% @sz11))) ∧ (((type_of% @by11) ∧ (type_of% @un11)) ∧ ((type_of% @ni11) ∧ (type_of% @zo11)))) ∧ ((((type_of% @bo11) ∧ (type_of% @st11)) ∧ ((type_of% @ze11) ∧ (type_of% @ag12))) ∧ (((type_of% @sz12) ∧ (type_of% @by12)) ∧ ((type_of% @un12) ∧ (type_of% @ni12)))))))) ∧ (((((((type_of% @zo12) ∧ ((type_of% @in12) ∧ (type_of% @bo12))) ∧ (((type_of% @st12) ∧ (type_of% @ze12)) ∧ ((type_of% @ag13) ∧ (type_of% @sz13)))) ∧ ((((type_of% @by13) ∧ (type_of% @un13)) ∧ ((type_of% @ni13) ∧ (type_of% @bo13))) ∧ (((type_of% @st13) ∧ (type_of% @ze13)) ∧ ((type_of% @fi13) ∧ (type_of% @fa13_0))))) ∧ (((((type_of% @ft13_0) ∧ (type_of% @fa13_1)) ∧ ((type_of% @ft13_1) ∧ (type_of% @ag14))) ∧ (((type_of% @sz14) ∧ (type_of% @by14)) ∧ ((type_of% @un14) ∧ (type_of% @ni14)))) ∧ ((((type_of% @bo14) ∧ (type_of% @st14)) ∧ ((type_of% @ze14) ∧ (type_of% @fi14))) ∧ (((type_of% @fa14_0) ∧ (type_of% @ft14_0)) ∧ ((type_of% @fa14_1) ∧ (type_of% @ft14_1)))))) ∧ (((((type_of% @nk15) ∧ ((type_of% @ag15) ∧ (type_of% @sz15))) ∧ (((type_of% @by15) ∧ (type_of% @un15)) ∧ ((type_of% @ni15) ∧ (type_of% @zo15)))) ∧ ((((type_of% @bo15) ∧ (type_of% @st15)) ∧ ((type_of% @ze15) ∧ (type_of% @nk16))) ∧ (((type_of% @ag16) ∧ (type_of% @sz16)) ∧ ((type_of% @by16) ∧ (type_of% @un16))))) ∧ (((((type_of% @ni16) ∧ (type_of% @zo16)) ∧ ((type_of% @bo16) ∧ (type_of% @st16))) ∧ (((type_of% @ze16) ∧ (type_of% @nk17)) ∧ ((type_of% @ag17) ∧ (type_of% @sz17)))) ∧ ((((type_of% @by17) ∧ (type_of% @un17)) ∧ ((type_of% @ni17) ∧ (type_of% @zo17))) ∧ (((type_of% @bo17) ∧ (type_of% @st17)) ∧ ((type_of% @ze17) ∧ (type_of% @ag18))))))) ∧ ((((((type_of% @sz18) ∧ ((type_of% @by18) ∧ (type_of% @un18))) ∧ (((type_of% @ni18) ∧ (type_of% @bo18)) ∧ ((type_of% @st18) ∧ (type_of% @ze18)))) ∧ ((((type_of% @fi18) ∧ (type_of% @fa18_0)) ∧ ((type_of% @ft18_0) ∧ (type_of% @ag19))) ∧ (((type_of% @sz19) ∧ (type_of% @by19)) ∧ ((type_of% @un19) ∧ (type_of% @ni19))))) ∧ (((((type_of% @bo19) ∧ (type_of% @st19)) ∧ ((type_of% @ze19) ∧ (type_of% @fi19))) ∧ (((type_of% @fa19_0) ∧ (type_of% @ft19_0)) ∧ ((type_of% @nk20) ∧ (type_of% @ag20)))) ∧ ((((type_of% @sz20) ∧ (type_of% @by20)) ∧ ((type_of% @un20) ∧ (type_of% @ni20))) ∧ (((type_of% @bo20) ∧ (type_of% @st20)) ∧ ((type_of% @ze20) ∧ (type_of% @ag21)))))) ∧ ((((((type_of% @sz21) ∧ (type_of% @by21)) ∧ ((type_of% @un21) ∧ (type_of% @ni21))) ∧ (((type_of% @zo21) ∧ (type_of% @in21)) ∧ ((type_of% @bo21) ∧ (type_of% @st21)))) ∧ ((((type_of% @ze21) ∧ (type_of% @nk22)) ∧ ((type_of% @ag22) ∧ (type_of% @sz22))) ∧ (((type_of% @by22) ∧ (type_of% @un22)) ∧ ((type_of% @ni22) ∧ (type_of% @zo22))))) ∧ (((((type_of% @el22) ∧ (type_of% @bo22)) ∧ ((type_of% @st22) ∧ (type_of% @ze22))) ∧ (((type_of% @ag23) ∧ (type_of% @sz23)) ∧ ((type_of% @by23) ∧ (type_of% @un23)))) ∧ ((((type_of% @ni23) ∧ (type_of% @zo23)) ∧ ((type_of% @in23) ∧ (type_of% @bo23))) ∧ (((type_of% @st23) ∧ (type_of% @ze23)) ∧ ((type_of% @nk25) ∧ (type_of% @ag25))))))))) ∧ ((((((((type_of% @sz25) ∧ ((type_of% @by25) ∧ (type_of% @un25))) ∧ (((type_of% @ni25) ∧ (type_of% @bo25)) ∧ ((type_of% @st25) ∧ (type_of% @ze25)))) ∧ ((((type_of% @nk26) ∧ (type_of% @ag26)) ∧ ((type_of% @sz26) ∧ (type_of% @by26))) ∧ (((type_of% @un26) ∧ (type_of% @ni26)) ∧ ((type_of% @bo26) ∧ (type_of% @st26))))) ∧ (((((type_of% @ze26) ∧ (type_of% @nk27)) ∧ ((type_of% @ag27) ∧ (type_of% @sz27))) ∧ (((type_of% @by27) ∧ (type_of% @un27)) ∧ ((type_of% @ni27) ∧ (type_of% @bo27)))) ∧ ((((type_of% @st27) ∧ (type_of% @ze27)) ∧ ((type_of% @nk29) ∧ (type_of% @ag29))) ∧ (((type_of% @sz29) ∧ (type_of% @by29)) ∧ ((type_of% @un29) ∧ (type_of% @ni29)))))) ∧ (((((type_of% @bo29) ∧ ((type_of% @st29) ∧ (type_of% @ze29))) ∧ (((type_of% @nk30) ∧ (type_of% @ag30)) ∧ ((type_of% @sz30) ∧ (type_of% @by30)))) ∧ ((((type_of% @un30) ∧ (type_of% @ni30)) ∧ ((type_of% @zo30) ∧ (type_of% @el30))) ∧ (((type_of% @bo30) ∧ (type_of% @st30)) ∧ ((type_of% @ze30) ∧ (type_of% @nk31))))) ∧ (((((type_of% @ag31) ∧ (type_of% @sz31)) ∧ ((type_of% @by31) ∧ (type_of% @un31))) ∧ (((type_of% @ni31) ∧ (type_of% @bo31)) ∧ ((type_of% @st31) ∧ (type_of% @ze31)))) ∧ ((((type_of% @nk32) ∧ (type_of% @ag32)) ∧ ((type_of% @sz32) ∧ (type_of% @by32))) ∧ (((type_of% @un32) ∧ (type_of% @ni32)) ∧ ((type_of% @zo32) ∧ (type_of% @el32))))))) ∧ ((((((type_of% @bo32) ∧ ((type_of% @st32) ∧ (type_of% @ze32))) ∧ (((type_of% @nk33) ∧ (type_of% @ag33)) ∧ ((type_of% @sz33) ∧ (type_of% @by33)))) ∧ ((((type_of% @un33) ∧ (type_of% @ni33)) ∧ ((type_of% @zo33) ∧ (type_of% @el33))) ∧ (((type_of% @bo33) ∧ (type_of% @st33)) ∧ ((type_of% @ze33) ∧ (type_of% @ag34))))) ∧ (((((type_of% @sz34) ∧ (type_of% @by34)) ∧ ((type_of% @un34) ∧ (type_of% @ni34))) ∧ (((type_of% @bo34) ∧ (type_of% @st34)) ∧ ((type_of% @ze34) ∧ (type_of% @fi34)))) ∧ ((((type_of% @fa34_0) ∧ (type_of% @ft34_0)) ∧ ((type_of% @fa34_1) ∧ (type_of% @ft34_1))) ∧ (((type_of% @fa34_2) ∧ (type_of% @ft34_2)) ∧ ((type_of% @fa34_3) ∧ (type_of% @ft34_3)))))) ∧ ((((((type_of% @ag35) ∧ (type_of% @sz35)) ∧ ((type_of% @by35) ∧ (type_of% @un35))) ∧ (((type_of% @ni35) ∧ (type_of% @bo35)) ∧ ((type_of% @st35) ∧ (type_of% @ze35)))) ∧ ((((type_of% @fi35) ∧ (type_of% @fa35_0)) ∧ ((type_of% @ft35_0) ∧ (type_of% @fa35_1))) ∧ (((type_of% @ft35_1) ∧ (type_of% @fa35_2)) ∧ ((type_of% @ft35_2) ∧ (type_of% @fa35_3))))) ∧ (((((type_of% @ft35_3) ∧ (type_of% @nk37)) ∧ ((type_of% @ag37) ∧ (type_of% @sz37))) ∧ (((type_of% @by37) ∧ (type_of% @un37)) ∧ ((type_of% @ni37) ∧ (type_of% @bo37)))) ∧ ((((type_of% @st37) ∧ (type_of% @ze37)) ∧ ((type_of% @ag38) ∧ (type_of% @sz38))) ∧ (((type_of% @by38) ∧ (type_of% @un38)) ∧ ((type_of% @ni38) ∧ (type_of% @bo38)))))))) ∧ (((((((type_of% @st38) ∧ ((type_of% @ze38) ∧ (type_of% @fi38))) ∧ (((type_of% @fa38_0) ∧ (type_of% @ft38_0)) ∧ ((type_of% @fa38_1) ∧ (type_of% @ft38_1)))) ∧ ((((type_of% @ag39) ∧ (type_of% @sz39)) ∧ ((type_of% @by39) ∧ (type_of% @un39))) ∧ (((type_of% @ni39) ∧ (type_of% @bo39)) ∧ ((type_of% @st39) ∧ (type_of% @ze39))))) ∧ (((((type_of% @eq39) ∧ (type_of% @fi39)) ∧ ((type_of% @fa39_0) ∧ (type_of% @ft39_0))) ∧ (((type_of% @fa39_1) ∧ (type_of% @ft39_1)) ∧ ((type_of% @nk40) ∧ (type_of% @ag40)))) ∧ ((((type_of% @sz40) ∧ (type_of% @by40)) ∧ ((type_of% @un40) ∧ (type_of% @ni40))) ∧ (((type_of% @bo40) ∧ (type_of% @st40)) ∧ ((type_of% @ze40) ∧ (type_of% @nk41)))))) ∧ (((((type_of% @ag41) ∧ ((type_of% @sz41) ∧ (type_of% @by41))) ∧ (((type_of% @un41) ∧ (type_of% @ni41)) ∧ ((type_of% @bo41) ∧ (type_of% @st41)))) ∧ ((((type_of% @ze41) ∧ (type_of% @nk42)) ∧ ((type_of% @ag42) ∧ (type_of% @sz42))) ∧ (((type_of% @by42) ∧ (type_of% @un42)) ∧ ((type_of% @ni42) ∧ (type_of% @bo42))))) ∧ (((((type_of% @st42) ∧ (type_of% @ze42)) ∧ ((type_of% @nk43) ∧ (type_of% @ag43))) ∧ (((type_of% @sz43) ∧ (type_of% @by43)) ∧ ((type_of% @un43) ∧ (type_of% @ni43)))) ∧ ((((type_of% @bo43) ∧ (type_of% @st43)) ∧ ((type_of% @ze43) ∧ (type_of% @ag44))) ∧ (((type_of% @sz44) ∧ (type_of% @by44)) ∧ ((type_of% @un44) ∧ (type_of% @ni44))))))) ∧ ((((((type_of% @bo44) ∧ ((type_of% @st44) ∧ (type_of% @ze44))) ∧ (((type_of% @fi44) ∧ (type_of% @fa44_0)) ∧ ((type_of% @ft44_0) ∧ (type_of% @fa44_1)))) ∧ ((((type_of% @ft44_1) ∧ (type_of% @ag45)) ∧ ((type_of% @sz45) ∧ (type_of% @by45))) ∧ (((type_of% @un45) ∧ (type_of% @ni45)) ∧ ((type_of% @bo45) ∧ (type_of% @st45))))) ∧ (((((type_of% @ze45) ∧ (type_of% @eq45)) ∧ ((type_of% @fi45) ∧ (type_of% @fa45_0))) ∧ (((type_of% @ft45_0) ∧ (type_of% @fa45_1)) ∧ ((type_of% @ft45_1) ∧ (type_of% @nk46)))) ∧ ((((type_of% @ag46) ∧ (type_of% @sz46)) ∧ ((type_of% @by46) ∧ (type_of% @un46))) ∧ (((type_of% @ni46) ∧ (type_of% @bo46)) ∧ ((type_of% @st46) ∧ (type_of% @ze46)))))) ∧ ((((((type_of% @nk48) ∧ (type_of% @ag48)) ∧ ((type_of% @sz48) ∧ (type_of% @by48))) ∧ (((type_of% @un48) ∧ (type_of% @ni48)) ∧ ((type_of% @bo48) ∧ (type_of% @st48)))) ∧ ((((type_of% @ze48) ∧ (type_of% @nk49)) ∧ ((type_of% @ag49) ∧ (type_of% @sz49))) ∧ (((type_of% @by49) ∧ (type_of% @un49)) ∧ ((type_of% @ni49) ∧ (type_of% @bo49))))) ∧ (((((type_of% @st49) ∧ (type_of% @ze49)) ∧ ((type_of% @nk50) ∧ (type_of% @ag50))) ∧ (((type_of% @sz50) ∧ (type_of% @by50)) ∧ ((type_of% @un50) ∧ (type_of% @ni50)))) ∧ ((((type_of% @bo50) ∧ (type_of% @st50)) ∧ ((type_of% @ze50) ∧ (type_of% @nk51))) ∧ (((type_of% @ag51) ∧ (type_of% @sz51)) ∧ ((type_of% @by51) ∧ (type_of% @un51)))))))))) ∧ (((((((((type_of% @ni51) ∧ ((type_of% @zo51) ∧ (type_of% @el51))) ∧ (((type_of% @bo51) ∧ (type_of% @st51)) ∧ ((type_of% @ze51) ∧ (type_of% @ag52)))) ∧ ((((type_of% @sz52) ∧ (type_of% @by52)) ∧ ((type_of% @un52) ∧ (type_of% @ni52))) ∧ (((type_of% @bo52) ∧ (type_of% @st52)) ∧ ((type_of% @ze52) ∧ (type_of% @fi52))))) ∧ (((((type_of% @fa52_0) ∧ (type_of% @ft52_0)) ∧ ((type_of% @fa52_1) ∧ (type_of% @ft52_1))) ∧ (((type_of% @fa52_2) ∧ (type_of% @ft52_2)) ∧ ((type_of% @ag53) ∧ (type_of% @sz53)))) ∧ ((((type_of% @by53) ∧ (type_of% @un53)) ∧ ((type_of% @ni53) ∧ (type_of% @bo53))) ∧ (((type_of% @st53) ∧ (type_of% @ze53)) ∧ ((type_of% @eq53) ∧ (type_of% @fi53)))))) ∧ (((((type_of% @fa53_0) ∧ ((type_of% @ft53_0) ∧ (type_of% @fa53_1))) ∧ (((type_of% @ft53_1) ∧ (type_of% @fa53_2)) ∧ ((type_of% @ft53_2) ∧ (type_of% @ag54)))) ∧ ((((type_of% @sz54) ∧ (type_of% @by54)) ∧ ((type_of% @un54) ∧ (type_of% @ni54))) ∧ (((type_of% @bo54) ∧ (type_of% @st54)) ∧ ((type_of% @ze54) ∧ (type_of% @fi54))))) ∧ (((((type_of% @fa54_0) ∧ (type_of% @ft54_0)) ∧ ((type_of% @fa54_1) ∧ (type_of% @ft54_1))) ∧ (((type_of% @fa54_2) ∧ (type_of% @ft54_2)) ∧ ((type_of% @fa54_3) ∧ (type_of% @ft54_3)))) ∧ ((((type_of% @fa54_4) ∧ (type_of% @ft54_4)) ∧ ((type_of% @fa54_5) ∧ (type_of% @ft54_5))) ∧ (((type_of% @ag55) ∧ (type_of% @sz55)) ∧ ((type_of% @by55) ∧ (type_of% @un55))))))) ∧ ((((((type_of% @ni55) ∧ ((type_of% @bo55) ∧ (type_of% @st55))) ∧ (((type_of% @ze55) ∧ (type_of% @eq55)) ∧ ((type_of% @fi55) ∧ (type_of% @fa55_0)))) ∧ ((((type_of% @ft55_0) ∧ (type_of% @fa55_1)) ∧ ((type_of% @ft55_1) ∧ (type_of% @fa55_2))) ∧ (((type_of% @ft55_2) ∧ (type_of% @fa55_3)) ∧ ((type_of% @ft55_3) ∧ (type_of% @fa55_4))))) ∧ (((((type_of% @ft55_4) ∧ (type_of% @fa55_5)) ∧ ((type_of% @ft55_5) ∧ (type_of% @nk56))) ∧ (((type_of% @ag56) ∧ (type_of% @sz56)) ∧ ((type_of% @by56) ∧ (type_of% @un56)))) ∧ ((((type_of% @ni56) ∧ (type_of% @bo56)) ∧ ((type_of% @st56) ∧ (type_of% @ze56))) ∧ (((type_of% @nk57) ∧ (type_of% @ag57)) ∧ ((type_of% @sz57) ∧ (type_of% @by57)))))) ∧ (((((type_of% @un57) ∧ ((type_of% @ni57) ∧ (type_of% @bo57))) ∧ (((type_of% @st57) ∧ (type_of% @ze57)) ∧ ((type_of% @nk58) ∧ (type_of% @ag58)))) ∧ ((((type_of% @sz58) ∧ (type_of% @by58)) ∧ ((type_of% @un58) ∧ (type_of% @ni58))) ∧ (((type_of% @bo58) ∧ (type_of% @st58)) ∧ ((type_of% @ze58) ∧ (type_of% @nk59))))) ∧ (((((type_of% @ag59) ∧ (type_of% @sz59)) ∧ ((type_of% @by59) ∧ (type_of% @un59))) ∧ (((type_of% @ni59) ∧ (type_of% @bo59)) ∧ ((type_of% @st59) ∧ (type_of% @ze59)))) ∧ ((((type_of% @nk60) ∧ (type_of% @ag60)) ∧ ((type_of% @sz60) ∧ (type_of% @by60))) ∧ (((type_of% @un60) ∧ (type_of% @ni60)) ∧ ((type_of% @bo60) ∧ (type_of% @st60)))))))) ∧ (((((((type_of% @ze60) ∧ ((type_of% @nk61) ∧ (type_of% @ag61))) ∧ (((type_of% @sz61) ∧ (type_of% @by61)) ∧ ((type_of% @un61) ∧ (type_of% @ni61)))) ∧ ((((type_of% @bo61) ∧ (type_of% @st61)) ∧ ((type_of% @ze61) ∧ (type_of% @ag62))) ∧ (((type_of% @sz62) ∧ (type_of% @by62)) ∧ ((type_of% @un62) ∧ (type_of% @ni62))))) ∧ (((((type_of% @zo62) ∧ (type_of% @in62)) ∧ ((type_of% @bo62) ∧ (type_of% @st62))) ∧ (((type_of% @ze62) ∧ (type_of% @nk63)) ∧ ((type_of% @ag63) ∧ (type_of% @sz63)))) ∧ ((((type_of% @by63) ∧ (type_of% @un63)) ∧ ((type_of% @ni63) ∧ (type_of% @bo63))) ∧ (((type_of% @st63) ∧ (type_of% @ze63)) ∧ ((type_of% @nk64) ∧ (type_of% @ag64)))))) ∧ (((((type_of% @sz64) ∧ ((type_of% @by64) ∧ (type_of% @un64))) ∧ (((type_of% @ni64) ∧ (type_of% @bo64)) ∧ ((type_of% @st64) ∧ (type_of% @ze64)))) ∧ ((((type_of% @nk65) ∧ (type_of% @ag65)) ∧ ((type_of% @sz65) ∧ (type_of% @by65))) ∧ (((type_of% @un65) ∧ (type_of% @ni65)) ∧ ((type_of% @bo65) ∧ (type_of% @st65))))) ∧ (((((type_of% @ze65) ∧ (type_of% @nk66)) ∧ ((type_of% @ag66) ∧ (type_of% @sz66))) ∧ (((type_of% @by66) ∧ (type_of% @un66)) ∧ ((type_of% @ni66) ∧ (type_of% @bo66)))) ∧ ((((type_of% @st66) ∧ (type_of% @ze66)) ∧ ((type_of% @nk67) ∧ (type_of% @ag67))) ∧ (((type_of% @sz67) ∧ (type_of% @by67)) ∧ ((type_of% @un67) ∧ (type_of% @ni67))))))) ∧ ((((((type_of% @bo67) ∧ ((type_of% @st67) ∧ (type_of% @ze67))) ∧ (((type_of% @ag68) ∧ (type_of% @sz68)) ∧ ((type_of% @by68) ∧ (type_of% @un68)))) ∧ ((((type_of% @ni68) ∧ (type_of% @zo68)) ∧ ((type_of% @in68) ∧ (type_of% @bo68))) ∧ (((type_of% @st68) ∧ (type_of% @ze68)) ∧ ((type_of% @nk69) ∧ (type_of% @ag69))))) ∧ (((((type_of% @sz69) ∧ (type_of% @by69)) ∧ ((type_of% @un69) ∧ (type_of% @ni69))) ∧ (((type_of% @bo69) ∧ (type_of% @st69)) ∧ ((type_of% @ze69) ∧ (type_of% @nk70)))) ∧ ((((type_of% @ag70) ∧ (type_of% @sz70)) ∧ ((type_of% @by70) ∧ (type_of% @un70))) ∧ (((type_of% @ni70) ∧ (type_of% @bo70)) ∧ ((type_of% @st70) ∧ (type_of% @ze70)))))) ∧ ((((((type_of% @nk71) ∧ (type_of% @ag71)) ∧ ((type_of% @sz71) ∧ (type_of% @by71))) ∧ (((type_of% @un71) ∧ (type_of% @ni71)) ∧ ((type_of% @bo71) ∧ (type_of% @st71)))) ∧ ((((type_of% @ze71) ∧ (type_of% @nk72)) ∧ ((type_of% @ag72) ∧ (type_of% @sz72))) ∧ (((type_of% @by72) ∧ (type_of% @un72)) ∧ ((type_of% @ni72) ∧ (type_of% @bo72))))) ∧ (((((type_of% @st72) ∧ (type_of% @ze72)) ∧ ((type_of% @nk73) ∧ (type_of% @ag73))) ∧ (((type_of% @sz73) ∧ (type_of% @by73)) ∧ ((type_of% @un73) ∧ (type_of% @ni73)))) ∧ ((((type_of% @bo73) ∧ (type_of% @st73)) ∧ ((type_of% @ze73) ∧ (type_of% @ag74))) ∧ (((type_of% @sz74) ∧ (type_of% @by74)) ∧ ((type_of% @un74) ∧ (type_of% @ni74))))))))) ∧ ((((((((type_of% @zo74) ∧ ((type_of% @in74) ∧ (type_of% @bo74))) ∧ (((type_of% @st74) ∧ (type_of% @ze74)) ∧ ((type_of% @nk75) ∧ (type_of% @ag75)))) ∧ ((((type_of% @sz75) ∧ (type_of% @by75)) ∧ ((type_of% @un75) ∧ (type_of% @ni75))) ∧ (((type_of% @bo75) ∧ (type_of% @st75)) ∧ ((type_of% @ze75) ∧ (type_of% @nk76))))) ∧ (((((type_of% @ag76) ∧ (type_of% @sz76)) ∧ ((type_of% @by76) ∧ (type_of% @un76))) ∧ (((type_of% @ni76) ∧ (type_of% @bo76)) ∧ ((type_of% @st76) ∧ (type_of% @ze76)))) ∧ ((((type_of% @ag77) ∧ (type_of% @sz77)) ∧ ((type_of% @by77) ∧ (type_of% @un77))) ∧ (((type_of% @ni77) ∧ (type_of% @bo77)) ∧ ((type_of% @st77) ∧ (type_of% @ze77)))))) ∧ (((((type_of% @fi77) ∧ ((type_of% @fa77_0) ∧ (type_of% @ft77_0))) ∧ (((type_of% @fa77_1) ∧ (type_of% @ft77_1)) ∧ ((type_of% @fa77_2) ∧ (type_of% @ft77_2)))) ∧ ((((type_of% @fa77_3) ∧ (type_of% @ft77_3)) ∧ ((type_of% @ag78) ∧ (type_of% @sz78))) ∧ (((type_of% @by78) ∧ (type_of% @un78)) ∧ ((type_of% @ni78) ∧ (type_of% @bo78))))) ∧ (((((type_of% @st78) ∧ (type_of% @ze78)) ∧ ((type_of% @fi78) ∧ (type_of% @fa78_0))) ∧ (((type_of% @ft78_0) ∧ (type_of% @fa78_1)) ∧ ((type_of% @ft78_1) ∧ (type_of% @fa78_2)))) ∧ ((((type_of% @ft78_2) ∧ (type_of% @fa78_3)) ∧ ((type_of% @ft78_3) ∧ (type_of% @ag80))) ∧ (((type_of% @sz80) ∧ (type_of% @by80)) ∧ ((type_of% @un80) ∧ (type_of% @ni80))))))) ∧ ((((((type_of% @bo80) ∧ ((type_of% @st80) ∧ (type_of% @ze80))) ∧ (((type_of% @fi80) ∧ (type_of% @ft80_0)) ∧ ((type_of% @ag81) ∧ (type_of% @sz81)))) ∧ ((((type_of% @by81) ∧ (type_of% @un81)) ∧ ((type_of% @ni81) ∧ (type_of% @bo81))) ∧ (((type_of% @st81) ∧ (type_of% @ze81)) ∧ ((type_of% @fi81) ∧ (type_of% @ft81_0))))) ∧ (((((type_of% @nk82) ∧ (type_of% @ag82)) ∧ ((type_of% @sz82) ∧ (type_of% @by82))) ∧ (((type_of% @un82) ∧ (type_of% @ni82)) ∧ ((type_of% @bo82) ∧ (type_of% @st82)))) ∧ ((((type_of% @ze82) ∧ (type_of% @ag83)) ∧ ((type_of% @sz83) ∧ (type_of% @by83))) ∧ (((type_of% @un83) ∧ (type_of% @ni83)) ∧ ((type_of% @zo83) ∧ (type_of% @in83)))))) ∧ ((((((type_of% @bo83) ∧ (type_of% @st83)) ∧ ((type_of% @ze83) ∧ (type_of% @ag84))) ∧ (((type_of% @sz84) ∧ (type_of% @by84)) ∧ ((type_of% @un84) ∧ (type_of% @ni84)))) ∧ ((((type_of% @zo84) ∧ (type_of% @in84)) ∧ ((type_of% @bo84) ∧ (type_of% @st84))) ∧ (((type_of% @ze84) ∧ (type_of% @nk85)) ∧ ((type_of% @ag85) ∧ (type_of% @sz85))))) ∧ (((((type_of% @by85) ∧ (type_of% @un85)) ∧ ((type_of% @ni85) ∧ (type_of% @bo85))) ∧ (((type_of% @st85) ∧ (type_of% @ze85)) ∧ ((type_of% @nk86) ∧ (type_of% @ag86)))) ∧ ((((type_of% @sz86) ∧ (type_of% @by86)) ∧ ((type_of% @un86) ∧ (type_of% @ni86))) ∧ (((type_of% @zo86) ∧ (type_of% @bo86)) ∧ ((type_of% @st86) ∧ (type_of% @ze86)))))))) ∧ (((((((type_of% @ag87) ∧ ((type_of% @sz87) ∧ (type_of% @by87))) ∧ (((type_of% @un87) ∧ (type_of% @ni87)) ∧ ((type_of% @zo87) ∧ (type_of% @in87)))) ∧ ((((type_of% @bo87) ∧ (type_of% @st87)) ∧ ((type_of% @ze87) ∧ (type_of% @ag88))) ∧ (((type_of% @sz88) ∧ (type_of% @by88)) ∧ ((type_of% @un88) ∧ (type_of% @ni88))))) ∧ (((((type_of% @zo88) ∧ (type_of% @in88)) ∧ ((type_of% @bo88) ∧ (type_of% @st88))) ∧ (((type_of% @ze88) ∧ (type_of% @ag89)) ∧ ((type_of% @sz89) ∧ (type_of% @by89)))) ∧ ((((type_of% @un89) ∧ (type_of% @ni89)) ∧ ((type_of% @bo89) ∧ (type_of% @st89))) ∧ (((type_of% @ze89) ∧ (type_of% @fi89)) ∧ ((type_of% @fa89_0) ∧ (type_of% @ft89_0)))))) ∧ (((((type_of% @fa89_1) ∧ ((type_of% @ft89_1) ∧ (type_of% @fa89_2))) ∧ (((type_of% @ft89_2) ∧ (type_of% @fa89_3)) ∧ ((type_of% @ft89_3) ∧ (type_of% @fa89_4)))) ∧ ((((type_of% @ft89_4) ∧ (type_of% @fa89_5)) ∧ ((type_of% @ft89_5) ∧ (type_of% @fa89_6))) ∧ (((type_of% @ft89_6) ∧ (type_of% @fa89_7)) ∧ ((type_of% @ft89_7) ∧ (type_of% @fa89_8))))) ∧ (((((type_of% @ft89_8) ∧ (type_of% @fa89_9)) ∧ ((type_of% @ft89_9) ∧ (type_of% @fa89_10))) ∧ (((type_of% @ft89_10) ∧ (type_of% @ag90)) ∧ ((type_of% @sz90) ∧ (type_of% @by90)))) ∧ ((((type_of% @un90) ∧ (type_of% @ni90)) ∧ ((type_of% @bo90) ∧ (type_of% @st90))) ∧ (((type_of% @ze90) ∧ (type_of% @fi90)) ∧ ((type_of% @fa90_0) ∧ (type_of% @ft90_0))))))) ∧ ((((((type_of% @fa90_1) ∧ ((type_of% @ft90_1) ∧ (type_of% @fa90_2))) ∧ (((type_of% @ft90_2) ∧ (type_of% @fa90_3)) ∧ ((type_of% @ft90_3) ∧ (type_of% @fa90_4)))) ∧ ((((type_of% @ft90_4) ∧ (type_of% @fa90_5)) ∧ ((type_of% @ft90_5) ∧ (type_of% @fa90_6))) ∧ (((type_of% @ft90_6) ∧ (type_of% @fa90_7)) ∧ ((type_of% @ft90_7) ∧ (type_of% @fa90_8))))) ∧ (((((type_of% @ft90_8) ∧ (type_of% @fa90_9)) ∧ ((type_of% @ft90_9) ∧ (type_of% @fa90_10))) ∧ (((type_of% @ft90_10) ∧ (type_of% @ag91)) ∧ ((type_of% @sz91) ∧ (type_of% @by91)))) ∧ ((((type_of% @un91) ∧ (type_of% @ni91)) ∧ ((type_of% @bo91) ∧ (type_of% @st91))) ∧ (((type_of% @ze91) ∧ (type_of% @fo)) ∧ ((type_of% @ca3) ∧ (type_of% @ca4)))))) ∧ ((((((type_of% @ca5) ∧ (type_of% @ca6)) ∧ ((type_of% @ca7) ∧ (type_of% @ca8))) ∧ (((type_of% @ca9) ∧ (type_of% @ca10)) ∧ ((type_of% @ca11) ∧ (type_of% @ca12)))) ∧ ((((type_of% @ca13) ∧ (type_of% @ca14)) ∧ ((type_of% @ca15) ∧ (type_of% @ca16))) ∧ (((type_of% @ca17) ∧ (type_of% @ca18)) ∧ ((type_of% @ca19) ∧ (type_of% @ca20))))) ∧ (((((type_of% @ca21) ∧ (type_of% @ca22)) ∧ ((type_of% @ca23) ∧ (type_of% @ca24))) ∧ (((type_of% @ca25) ∧ (type_of% @ca26)) ∧ ((type_of% @ca27) ∧ (type_of% @ca28)))) ∧ ((((type_of% @ca29) ∧ (type_of% @ca30)) ∧ ((type_of% @ca31) ∧ (type_of% @ca32))) ∧ (((type_of% @ca33) ∧ (type_of% @ca34)) ∧ ((type_of% @ca35) ∧ (type_of% @ca36)))))))))) := ⟨⟨⟨⟨⟨⟨⟨⟨⟨@nk1, ⟨@ag1, @sz1⟩⟩, ⟨⟨@by1, @un1⟩, ⟨@ni1, @bo1⟩⟩⟩, ⟨⟨⟨@st1, @ze1⟩, ⟨@ag2, @sz2⟩⟩, ⟨⟨@by2, @un2⟩, ⟨@ni2, @zo2⟩⟩⟩⟩, ⟨⟨⟨⟨@in2, @bo2⟩, ⟨@st2, @ze2⟩⟩, ⟨⟨@ag3, @sz3⟩, ⟨@by3, @un3⟩⟩⟩, ⟨⟨⟨@ni3, @zo3⟩, ⟨@in3, @bo3⟩⟩, ⟨⟨@st3, @ze3⟩, ⟨@ag4, @sz4⟩⟩⟩⟩⟩, ⟨⟨⟨⟨@by4, ⟨@un4, @ni4⟩⟩, ⟨⟨@zo4, @bo4⟩, ⟨@st4, @ze4⟩⟩⟩, ⟨⟨⟨@ag5, @sz5⟩, ⟨@by5, @un5⟩⟩, ⟨⟨@ni5, @zo5⟩, ⟨@in5, @bo5⟩⟩⟩⟩, ⟨⟨⟨⟨@st5, @ze5⟩, ⟨@ag6, @sz6⟩⟩, ⟨⟨@by6, @un6⟩, ⟨@ni6, @zo6⟩⟩⟩, ⟨⟨⟨@in6, @bo6⟩, ⟨@st6, @ze6⟩⟩, ⟨⟨@ag7, @sz7⟩, ⟨@by7, @un7⟩⟩⟩⟩⟩⟩, ⟨⟨⟨⟨⟨@ni7, ⟨@bo7, @st7⟩⟩, ⟨⟨@ze7, @fi7⟩, ⟨@fa7_0, @ft7_0⟩⟩⟩, ⟨⟨⟨@fa7_1, @ft7_1⟩, ⟨@fa7_2, @ft7_2⟩⟩, ⟨⟨@fa7_3, @ft7_3⟩, ⟨@ag8, @sz8⟩⟩⟩⟩, ⟨⟨⟨⟨@by8, @un8⟩, ⟨@ni8, @bo8⟩⟩, ⟨⟨@st8, @ze8⟩, ⟨@fi8, @fa8_0⟩⟩⟩, ⟨⟨⟨@ft8_0, @fa8_1⟩, ⟨@ft8_1, @fa8_2⟩⟩, ⟨⟨@ft8_2, @fa8_3⟩, ⟨@ft8_3, @ag9⟩⟩⟩⟩⟩, ⟨⟨⟨⟨@sz9, ⟨@by9, @un9⟩⟩, ⟨⟨@ni9, @zo9⟩, ⟨@bo9, @st9⟩⟩⟩, ⟨⟨⟨@ze9, @ag10⟩, ⟨@sz10, @by10⟩⟩, ⟨⟨@un10, @ni10⟩, ⟨@zo10, @bo10⟩⟩⟩⟩, ⟨⟨⟨⟨@st10, @ze10⟩, ⟨@ag11, @sz11⟩⟩, ⟨⟨@by11, @un11⟩, ⟨@ni11, @zo11⟩⟩⟩, ⟨⟨⟨@bo11, @st11⟩, ⟨@ze11, @ag12⟩⟩, ⟨⟨@sz12, @by12⟩, ⟨@un12, @ni12⟩⟩⟩⟩⟩⟩⟩, ⟨⟨⟨⟨⟨⟨@zo12, ⟨@in12, @bo12⟩⟩, ⟨⟨@st12, @ze12⟩, ⟨@ag13, @sz13⟩⟩⟩, ⟨⟨⟨@by13, @un13⟩, ⟨@ni13, @bo13⟩⟩, ⟨⟨@st13, @ze13⟩, ⟨@fi13, @fa13_0⟩⟩⟩⟩, ⟨⟨⟨⟨@ft13_0, @fa13_1⟩, ⟨@ft13_1, @ag14⟩⟩, ⟨⟨@sz14, @by14⟩, ⟨@un14, @ni14⟩⟩⟩, ⟨⟨⟨@bo14, @st14⟩, ⟨@ze14, @fi14⟩⟩, ⟨⟨@fa14_0, @ft14_0⟩, ⟨@fa14_1, @ft14_1⟩⟩⟩⟩⟩, ⟨⟨⟨⟨@nk15, ⟨@ag15, @sz15⟩⟩, ⟨⟨@by15, @un15⟩, ⟨@ni15, @zo15⟩⟩⟩, ⟨⟨⟨@bo15, @st15⟩, ⟨@ze15, @nk16⟩⟩, ⟨⟨@ag16, @sz16⟩, ⟨@by16, @un16⟩⟩⟩⟩, ⟨⟨⟨⟨@ni16, @zo16⟩, ⟨@bo16, @st16⟩⟩, ⟨⟨@ze16, @nk17⟩, ⟨@ag17, @sz17⟩⟩⟩, ⟨⟨⟨@by17, @un17⟩, ⟨@ni17, @zo17⟩⟩, ⟨⟨@bo17, @st17⟩, ⟨@ze17, @ag18⟩⟩⟩⟩⟩⟩, ⟨⟨⟨⟨⟨@sz18, ⟨@by18, @un18⟩⟩, ⟨⟨@ni18, @bo18⟩, ⟨@st18, @ze18⟩⟩⟩, ⟨⟨⟨@fi18, @fa18_0⟩, ⟨@ft18_0, @ag19⟩⟩, ⟨⟨@sz19, @by19⟩, ⟨@un19, @ni19⟩⟩⟩⟩, ⟨⟨⟨⟨@bo19, @st19⟩, ⟨@ze19, @fi19⟩⟩, ⟨⟨@fa19_0, @ft19_0⟩, ⟨@nk20, @ag20⟩⟩⟩, ⟨⟨⟨@sz20, @by20⟩, ⟨@un20, @ni20⟩⟩, ⟨⟨@bo20, @st20⟩, ⟨@ze20, @ag21⟩⟩⟩⟩⟩, ⟨⟨⟨⟨⟨@sz21, @by21⟩, ⟨@un21, @ni21⟩⟩, ⟨⟨@zo21, @in21⟩, ⟨@bo21, @st21⟩⟩⟩, ⟨⟨⟨@ze21, @nk22⟩, ⟨@ag22, @sz22⟩⟩, ⟨⟨@by22, @un22⟩, ⟨@ni22, @zo22⟩⟩⟩⟩, ⟨⟨⟨⟨@el22, @bo22⟩, ⟨@st22, @ze22⟩⟩, ⟨⟨@ag23, @sz23⟩, ⟨@by23, @un23⟩⟩⟩, ⟨⟨⟨@ni23, @zo23⟩, ⟨@in23, @bo23⟩⟩, ⟨⟨@st23, @ze23⟩, ⟨@nk25, @ag25⟩⟩⟩⟩⟩⟩⟩⟩, ⟨⟨⟨⟨⟨⟨⟨@sz25, ⟨@by25, @un25⟩⟩, ⟨⟨@ni25, @bo25⟩, ⟨@st25, @ze25⟩⟩⟩, ⟨⟨⟨@nk26, @ag26⟩, ⟨@sz26, @by26⟩⟩, ⟨⟨@un26, @ni26⟩, ⟨@bo26, @st26⟩⟩⟩⟩, ⟨⟨⟨⟨@ze26, @nk27⟩, ⟨@ag27, @sz27⟩⟩, ⟨⟨@by27, @un27⟩, ⟨@ni27, @bo27⟩⟩⟩, ⟨⟨⟨@st27, @ze27⟩, ⟨@nk29, @ag29⟩⟩, ⟨⟨@sz29, @by29⟩, ⟨@un29, @ni29⟩⟩⟩⟩⟩, ⟨⟨⟨⟨@bo29, ⟨@st29, @ze29⟩⟩, ⟨⟨@nk30, @ag30⟩, ⟨@sz30, @by30⟩⟩⟩, ⟨⟨⟨@un30, @ni30⟩, ⟨@zo30, @el30⟩⟩, ⟨⟨@bo30, @st30⟩, ⟨@ze30, @nk31⟩⟩⟩⟩, ⟨⟨⟨⟨@ag31, @sz31⟩, ⟨@by31, @un31⟩⟩, ⟨⟨@ni31, @bo31⟩, ⟨@st31, @ze31⟩⟩⟩, ⟨⟨⟨@nk32, @ag32⟩, ⟨@sz32, @by32⟩⟩, ⟨⟨@un32, @ni32⟩, ⟨@zo32, @el32⟩⟩⟩⟩⟩⟩, ⟨⟨⟨⟨⟨@bo32, ⟨@st32, @ze32⟩⟩, ⟨⟨@nk33, @ag33⟩, ⟨@sz33, @by33⟩⟩⟩, ⟨⟨⟨@un33, @ni33⟩, ⟨@zo33, @el33⟩⟩, ⟨⟨@bo33, @st33⟩, ⟨@ze33, @ag34⟩⟩⟩⟩, ⟨⟨⟨⟨@sz34, @by34⟩, ⟨@un34, @ni34⟩⟩, ⟨⟨@bo34, @st34⟩, ⟨@ze34, @fi34⟩⟩⟩, ⟨⟨⟨@fa34_0, @ft34_0⟩, ⟨@fa34_1, @ft34_1⟩⟩, ⟨⟨@fa34_2, @ft34_2⟩, ⟨@fa34_3, @ft34_3⟩⟩⟩⟩⟩, ⟨⟨⟨⟨⟨@ag35, @sz35⟩, ⟨@by35, @un35⟩⟩, ⟨⟨@ni35, @bo35⟩, ⟨@st35, @ze35⟩⟩⟩, ⟨⟨⟨@fi35, @fa35_0⟩, ⟨@ft35_0, @fa35_1⟩⟩, ⟨⟨@ft35_1, @fa35_2⟩, ⟨@ft35_2, @fa35_3⟩⟩⟩⟩, ⟨⟨⟨⟨@ft35_3, @nk37⟩, ⟨@ag37, @sz37⟩⟩, ⟨⟨@by37, @un37⟩, ⟨@ni37, @bo37⟩⟩⟩, ⟨⟨⟨@st37, @ze37⟩, ⟨@ag38, @sz38⟩⟩, ⟨⟨@by38, @un38⟩, ⟨@ni38, @bo38⟩⟩⟩⟩⟩⟩⟩, ⟨⟨⟨⟨⟨⟨@st38, ⟨@ze38, @fi38⟩⟩, ⟨⟨@fa38_0, @ft38_0⟩, ⟨@fa38_1, @ft38_1⟩⟩⟩, ⟨⟨⟨@ag39, @sz39⟩, ⟨@by39, @un39⟩⟩, ⟨⟨@ni39, @bo39⟩, ⟨@st39, @ze39⟩⟩⟩⟩, ⟨⟨⟨⟨@eq39, @fi39⟩, ⟨@fa39_0, @ft39_0⟩⟩, ⟨⟨@fa39_1, @ft39_1⟩, ⟨@nk40, @ag40⟩⟩⟩, ⟨⟨⟨@sz40, @by40⟩, ⟨@un40, @ni40⟩⟩, ⟨⟨@bo40, @st40⟩, ⟨@ze40, @nk41⟩⟩⟩⟩⟩, ⟨⟨⟨⟨@ag41, ⟨@sz41, @by41⟩⟩, ⟨⟨@un41, @ni41⟩, ⟨@bo41, @st41⟩⟩⟩, ⟨⟨⟨@ze41, @nk42⟩, ⟨@ag42, @sz42⟩⟩, ⟨⟨@by42, @un42⟩, ⟨@ni42, @bo42⟩⟩⟩⟩, ⟨⟨⟨⟨@st42, @ze42⟩, ⟨@nk43, @ag43⟩⟩, ⟨⟨@sz43, @by43⟩, ⟨@un43, @ni43⟩⟩⟩, ⟨⟨⟨@bo43, @st43⟩, ⟨@ze43, @ag44⟩⟩, ⟨⟨@sz44, @by44⟩, ⟨@un44, @ni44⟩⟩⟩⟩⟩⟩, ⟨⟨⟨⟨⟨@bo44, ⟨@st44, @ze44⟩⟩, ⟨⟨@fi44, @fa44_0⟩, ⟨@ft44_0, @fa44_1⟩⟩⟩, ⟨⟨⟨@ft44_1, @ag45⟩, ⟨@sz45, @by45⟩⟩, ⟨⟨@un45, @ni45⟩, ⟨@bo45, @st45⟩⟩⟩⟩, ⟨⟨⟨⟨@ze45, @eq45⟩, ⟨@fi45, @fa45_0⟩⟩, ⟨⟨@ft45_0, @fa45_1⟩, ⟨@ft45_1, @nk46⟩⟩⟩, ⟨⟨⟨@ag46, @sz46⟩, ⟨@by46, @un46⟩⟩, ⟨⟨@ni46, @bo46⟩, ⟨@st46, @ze46⟩⟩⟩⟩⟩, ⟨⟨⟨⟨⟨@nk48, @ag48⟩, ⟨@sz48, @by48⟩⟩, ⟨⟨@un48, @ni48⟩, ⟨@bo48, @st48⟩⟩⟩, ⟨⟨⟨@ze48, @nk49⟩, ⟨@ag49, @sz49⟩⟩, ⟨⟨@by49, @un49⟩, ⟨@ni49, @bo49⟩⟩⟩⟩, ⟨⟨⟨⟨@st49, @ze49⟩, ⟨@nk50, @ag50⟩⟩, ⟨⟨@sz50, @by50⟩, ⟨@un50, @ni50⟩⟩⟩, ⟨⟨⟨@bo50, @st50⟩, ⟨@ze50, @nk51⟩⟩, ⟨⟨@ag51, @sz51⟩, ⟨@by51, @un51⟩⟩⟩⟩⟩⟩⟩⟩⟩, ⟨⟨⟨⟨⟨⟨⟨⟨@ni51, ⟨@zo51, @el51⟩⟩, ⟨⟨@bo51, @st51⟩, ⟨@ze51, @ag52⟩⟩⟩, ⟨⟨⟨@sz52, @by52⟩, ⟨@un52, @ni52⟩⟩, ⟨⟨@bo52, @st52⟩, ⟨@ze52, @fi52⟩⟩⟩⟩, ⟨⟨⟨⟨@fa52_0, @ft52_0⟩, ⟨@fa52_1, @ft52_1⟩⟩, ⟨⟨@fa52_2, @ft52_2⟩, ⟨@ag53, @sz53⟩⟩⟩, ⟨⟨⟨@by53, @un53⟩, ⟨@ni53, @bo53⟩⟩, ⟨⟨@st53, @ze53⟩, ⟨@eq53, @fi53⟩⟩⟩⟩⟩, ⟨⟨⟨⟨@fa53_0, ⟨@ft53_0, @fa53_1⟩⟩, ⟨⟨@ft53_1, @fa53_2⟩, ⟨@ft53_2, @ag54⟩⟩⟩, ⟨⟨⟨@sz54, @by54⟩, ⟨@un54, @ni54⟩⟩, ⟨⟨@bo54, @st54⟩, ⟨@ze54, @fi54⟩⟩⟩⟩, ⟨⟨⟨⟨@fa54_0, @ft54_0⟩, ⟨@fa54_1, @ft54_1⟩⟩, ⟨⟨@fa54_2, @ft54_2⟩, ⟨@fa54_3, @ft54_3⟩⟩⟩, ⟨⟨⟨@fa54_4, @ft54_4⟩, ⟨@fa54_5, @ft54_5⟩⟩, ⟨⟨@ag55, @sz55⟩, ⟨@by55, @un55⟩⟩⟩⟩⟩⟩, ⟨⟨⟨⟨⟨@ni55, ⟨@bo55, @st55⟩⟩, ⟨⟨@ze55, @eq55⟩, ⟨@fi55, @fa55_0⟩⟩⟩, ⟨⟨⟨@ft55_0, @fa55_1⟩, ⟨@ft55_1, @fa55_2⟩⟩, ⟨⟨@ft55_2, @fa55_3⟩, ⟨@ft55_3, @fa55_4⟩⟩⟩⟩, ⟨⟨⟨⟨@ft55_4, @fa55_5⟩, ⟨@ft55_5, @nk56⟩⟩, ⟨⟨@ag56, @sz56⟩, ⟨@by56, @un56⟩⟩⟩, ⟨⟨⟨@ni56, @bo56⟩, ⟨@st56, @ze56⟩⟩, ⟨⟨@nk57, @ag57⟩, ⟨@sz57, @by57⟩⟩⟩⟩⟩, ⟨⟨⟨⟨@un57, ⟨@ni57, @bo57⟩⟩, ⟨⟨@st57, @ze57⟩, ⟨@nk58, @ag58⟩⟩⟩, ⟨⟨⟨@sz58, @by58⟩, ⟨@un58, @ni58⟩⟩, ⟨⟨@bo58, @st58⟩, ⟨@ze58, @nk59⟩⟩⟩⟩, ⟨⟨⟨⟨@ag59, @sz59⟩, ⟨@by59, @un59⟩⟩, ⟨⟨@ni59, @bo59⟩, ⟨@st59, @ze59⟩⟩⟩, ⟨⟨⟨@nk60, @ag60⟩, ⟨@sz60, @by60⟩⟩, ⟨⟨@un60, @ni60⟩, ⟨@bo60, @st60⟩⟩⟩⟩⟩⟩⟩, ⟨⟨⟨⟨⟨⟨@ze60, ⟨@nk61, @ag61⟩⟩, ⟨⟨@sz61, @by61⟩, ⟨@un61, @ni61⟩⟩⟩, ⟨⟨⟨@bo61, @st61⟩, ⟨@ze61, @ag62⟩⟩, ⟨⟨@sz62, @by62⟩, ⟨@un62, @ni62⟩⟩⟩⟩, ⟨⟨⟨⟨@zo62, @in62⟩, ⟨@bo62, @st62⟩⟩, ⟨⟨@ze62, @nk63⟩, ⟨@ag63, @sz63⟩⟩⟩, ⟨⟨⟨@by63, @un63⟩, ⟨@ni63, @bo63⟩⟩, ⟨⟨@st63, @ze63⟩, ⟨@nk64, @ag64⟩⟩⟩⟩⟩, ⟨⟨⟨⟨@sz64, ⟨@by64, @un64⟩⟩, ⟨⟨@ni64, @bo64⟩, ⟨@st64, @ze64⟩⟩⟩, ⟨⟨⟨@nk65, @ag65⟩, ⟨@sz65, @by65⟩⟩, ⟨⟨@un65, @ni65⟩, ⟨@bo65, @st65⟩⟩⟩⟩, ⟨⟨⟨⟨@ze65, @nk66⟩, ⟨@ag66, @sz66⟩⟩, ⟨⟨@by66, @un66⟩, ⟨@ni66, @bo66⟩⟩⟩, ⟨⟨⟨@st66, @ze66⟩, ⟨@nk67, @ag67⟩⟩, ⟨⟨@sz67, @by67⟩, ⟨@un67, @ni67⟩⟩⟩⟩⟩⟩, ⟨⟨⟨⟨⟨@bo67, ⟨@st67, @ze67⟩⟩, ⟨⟨@ag68, @sz68⟩, ⟨@by68, @un68⟩⟩⟩, ⟨⟨⟨@ni68, @zo68⟩, ⟨@in68, @bo68⟩⟩, ⟨⟨@st68, @ze68⟩, ⟨@nk69, @ag69⟩⟩⟩⟩, ⟨⟨⟨⟨@sz69, @by69⟩, ⟨@un69, @ni69⟩⟩, ⟨⟨@bo69, @st69⟩, ⟨@ze69, @nk70⟩⟩⟩, ⟨⟨⟨@ag70, @sz70⟩, ⟨@by70, @un70⟩⟩, ⟨⟨@ni70, @bo70⟩, ⟨@st70, @ze70⟩⟩⟩⟩⟩, ⟨⟨⟨⟨⟨@nk71, @ag71⟩, ⟨@sz71, @by71⟩⟩, ⟨⟨@un71, @ni71⟩, ⟨@bo71, @st71⟩⟩⟩, ⟨⟨⟨@ze71, @nk72⟩, ⟨@ag72, @sz72⟩⟩, ⟨⟨@by72, @un72⟩, ⟨@ni72, @bo72⟩⟩⟩⟩, ⟨⟨⟨⟨@st72, @ze72⟩, ⟨@nk73, @ag73⟩⟩, ⟨⟨@sz73, @by73⟩, ⟨@un73, @ni73⟩⟩⟩, ⟨⟨⟨@bo73, @st73⟩, ⟨@ze73, @ag74⟩⟩, ⟨⟨@sz74, @by74⟩, ⟨@un74, @ni74⟩⟩⟩⟩⟩⟩⟩⟩, ⟨⟨⟨⟨⟨⟨⟨@zo74, ⟨@in74, @bo74⟩⟩, ⟨⟨@st74, @ze74⟩, ⟨@nk75, @ag75⟩⟩⟩, ⟨⟨⟨@sz75, @by75⟩, ⟨@un75, @ni75⟩⟩, ⟨⟨@bo75, @st75⟩, ⟨@ze75, @nk76⟩⟩⟩⟩, ⟨⟨⟨⟨@ag76, @sz76⟩, ⟨@by76, @un76⟩⟩, ⟨⟨@ni76, @bo76⟩, ⟨@st76, @ze76⟩⟩⟩, ⟨⟨⟨@ag77, @sz77⟩, ⟨@by77, @un77⟩⟩, ⟨⟨@ni77, @bo77⟩, ⟨@st77, @ze77⟩⟩⟩⟩⟩, ⟨⟨⟨⟨@fi77, ⟨@fa77_0, @ft77_0⟩⟩, ⟨⟨@fa77_1, @ft77_1⟩, ⟨@fa77_2, @ft77_2⟩⟩⟩, ⟨⟨⟨@fa77_3, @ft77_3⟩, ⟨@ag78, @sz78⟩⟩, ⟨⟨@by78, @un78⟩, ⟨@ni78, @bo78⟩⟩⟩⟩, ⟨⟨⟨⟨@st78, @ze78⟩, ⟨@fi78, @fa78_0⟩⟩, ⟨⟨@ft78_0, @fa78_1⟩, ⟨@ft78_1, @fa78_2⟩⟩⟩, ⟨⟨⟨@ft78_2, @fa78_3⟩, ⟨@ft78_3, @ag80⟩⟩, ⟨⟨@sz80, @by80⟩, ⟨@un80, @ni80⟩⟩⟩⟩⟩⟩, ⟨⟨⟨⟨⟨@bo80, ⟨@st80, @ze80⟩⟩, ⟨⟨@fi80, @ft80_0⟩, ⟨@ag81, @sz81⟩⟩⟩, ⟨⟨⟨@by81, @un81⟩, ⟨@ni81, @bo81⟩⟩, ⟨⟨@st81, @ze81⟩, ⟨@fi81, @ft81_0⟩⟩⟩⟩, ⟨⟨⟨⟨@nk82, @ag82⟩, ⟨@sz82, @by82⟩⟩, ⟨⟨@un82, @ni82⟩, ⟨@bo82, @st82⟩⟩⟩, ⟨⟨⟨@ze82, @ag83⟩, ⟨@sz83, @by83⟩⟩, ⟨⟨@un83, @ni83⟩, ⟨@zo83, @in83⟩⟩⟩⟩⟩, ⟨⟨⟨⟨⟨@bo83, @st83⟩, ⟨@ze83, @ag84⟩⟩, ⟨⟨@sz84, @by84⟩, ⟨@un84, @ni84⟩⟩⟩, ⟨⟨⟨@zo84, @in84⟩, ⟨@bo84, @st84⟩⟩, ⟨⟨@ze84, @nk85⟩, ⟨@ag85, @sz85⟩⟩⟩⟩, ⟨⟨⟨⟨@by85, @un85⟩, ⟨@ni85, @bo85⟩⟩, ⟨⟨@st85, @ze85⟩, ⟨@nk86, @ag86⟩⟩⟩, ⟨⟨⟨@sz86, @by86⟩, ⟨@un86, @ni86⟩⟩, ⟨⟨@zo86, @bo86⟩, ⟨@st86, @ze86⟩⟩⟩⟩⟩⟩⟩, ⟨⟨⟨⟨⟨⟨@ag87, ⟨@sz87, @by87⟩⟩, ⟨⟨@un87, @ni87⟩, ⟨@zo87, @in87⟩⟩⟩, ⟨⟨⟨@bo87, @st87⟩, ⟨@ze87, @ag88⟩⟩, ⟨⟨@sz88, @by88⟩, ⟨@un88, @ni88⟩⟩⟩⟩, ⟨⟨⟨⟨@zo88, @in88⟩, ⟨@bo88, @st88⟩⟩, ⟨⟨@ze88, @ag89⟩, ⟨@sz89, @by89⟩⟩⟩, ⟨⟨⟨@un89, @ni89⟩, ⟨@bo89, @st89⟩⟩, ⟨⟨@ze89, @fi89⟩, ⟨@fa89_0, @ft89_0⟩⟩⟩⟩⟩, ⟨⟨⟨⟨@fa89_1, ⟨@ft89_1, @fa89_2⟩⟩, ⟨⟨@ft89_2, @fa89_3⟩, ⟨@ft89_3, @fa89_4⟩⟩⟩, ⟨⟨⟨@ft89_4, @fa89_5⟩, ⟨@ft89_5, @fa89_6⟩⟩, ⟨⟨@ft89_6, @fa89_7⟩, ⟨@ft89_7, @fa89_8⟩⟩⟩⟩, ⟨⟨⟨⟨@ft89_8, @fa89_9⟩, ⟨@ft89_9, @fa89_10⟩⟩, ⟨⟨@ft89_10, @ag90⟩, ⟨@sz90, @by90⟩⟩⟩, ⟨⟨⟨@un90, @ni90⟩, ⟨@bo90, @st90⟩⟩, ⟨⟨@ze90, @fi90⟩, ⟨@fa90_0, @ft90_0⟩⟩⟩⟩⟩⟩, ⟨⟨⟨⟨⟨@fa90_1, ⟨@ft90_1, @fa90_2⟩⟩, ⟨⟨@ft90_2, @fa90_3⟩, ⟨@ft90_3, @fa90_4⟩⟩⟩, ⟨⟨⟨@ft90_4, @fa90_5⟩, ⟨@ft90_5, @fa90_6⟩⟩, ⟨⟨@ft90_6, @fa90_7⟩, ⟨@ft90_7, @fa90_8⟩⟩⟩⟩, ⟨⟨⟨⟨@ft90_8, @fa90_9⟩, ⟨@ft90_9, @fa90_10⟩⟩, ⟨⟨@ft90_10, @ag91⟩, ⟨@sz91, @by91⟩⟩⟩, ⟨⟨⟨@un91, @ni91⟩, ⟨@bo91, @st91⟩⟩, ⟨⟨@ze91, @fo⟩, ⟨@ca3, @ca4⟩⟩⟩⟩⟩, ⟨⟨⟨⟨⟨@ca5, @ca6⟩, ⟨@ca7, @ca8⟩⟩, ⟨⟨@ca9, @ca10⟩, ⟨@ca11, @ca12⟩⟩⟩, ⟨⟨⟨@ca13, @ca14⟩, ⟨@ca15, @ca16⟩⟩, ⟨⟨@ca17, @ca18⟩, ⟨@ca19, @ca20⟩⟩⟩⟩, ⟨⟨⟨⟨@ca21, @ca22⟩, ⟨@ca23, @ca24⟩⟩, ⟨⟨@ca25, @ca26⟩, ⟨@ca27, @ca28⟩⟩⟩, ⟨⟨⟨@ca29, @ca30⟩, ⟨@ca31, @ca32⟩⟩, ⟨⟨@ca33, @ca34⟩, ⟨@ca35, @ca36⟩⟩⟩⟩⟩⟩⟩⟩⟩⟩
end Go.Proofs.Ythpfjigkhbabnab.E
