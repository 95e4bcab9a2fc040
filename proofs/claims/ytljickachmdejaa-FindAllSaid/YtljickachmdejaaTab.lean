/- Closed facts: what the walk asks of the program's table of types, and of its functions. No conditions. -/
import Derived.Test.YtljickachmdejaaEngineC
import Derived.Test.YtljickachmdejaaProg
import Derived.KernelRfl
namespace Go.Proofs.Ytljickachmdejaa.E
open Go
theorem nk1 : tyNil Try.prog 1 = some .func := by kernel_rfl
theorem ag1 : tyAgg Try.prog 1 = some false := by kernel_rfl
theorem sz1 : tySz Try.prog 1 = some 1 := by kernel_rfl
theorem by1 : tyBy Try.prog 1 = some 8 := by kernel_rfl
theorem un1 : (Try.prog.underlying 1).isSome = true := by kernel_rfl
theorem ni1 : tyNoIf Try.prog 1 = true := by kernel_rfl
theorem kt1 : tyKsT Try.prog 1 = [none] := by kernel_rfl
theorem bo1 : tyBool Try.prog 1 = false := by kernel_rfl
theorem st1 : tyStr Try.prog 1 = false := by kernel_rfl
theorem ze1 : tyZ Try.prog 1 = some [.val .nilFunc] := by kernel_rfl
theorem ag2 : tyAgg Try.prog 2 = some false := by kernel_rfl
theorem sz2 : tySz Try.prog 2 = some 1 := by kernel_rfl
theorem by2 : tyBy Try.prog 2 = some 8 := by kernel_rfl
theorem un2 : (Try.prog.underlying 2).isSome = true := by kernel_rfl
theorem ni2 : tyNoIf Try.prog 2 = true := by kernel_rfl
theorem zo2 : tyZ1 Try.prog 2 = some ((.int .i64 0)) := by kernel_rfl
theorem kt2 : tyKsT Try.prog 2 = [none] := by kernel_rfl
theorem in2 : tyInt Try.prog 2 = some .i64 := by kernel_rfl
theorem bo2 : tyBool Try.prog 2 = false := by kernel_rfl
theorem st2 : tyStr Try.prog 2 = false := by kernel_rfl
theorem ze2 : tyZ Try.prog 2 = some [.val (.int .i64 0)] := by kernel_rfl
theorem ag3 : tyAgg Try.prog 3 = some false := by kernel_rfl
theorem sz3 : tySz Try.prog 3 = some 1 := by kernel_rfl
theorem by3 : tyBy Try.prog 3 = some 8 := by kernel_rfl
theorem un3 : (Try.prog.underlying 3).isSome = true := by kernel_rfl
theorem ni3 : tyNoIf Try.prog 3 = true := by kernel_rfl
theorem zo3 : tyZ1 Try.prog 3 = some ((.int .i64 0)) := by kernel_rfl
theorem kt3 : tyKsT Try.prog 3 = [none] := by kernel_rfl
theorem in3 : tyInt Try.prog 3 = some .i64 := by kernel_rfl
theorem bo3 : tyBool Try.prog 3 = false := by kernel_rfl
theorem st3 : tyStr Try.prog 3 = false := by kernel_rfl
theorem ze3 : tyZ Try.prog 3 = some [.val (.int .i64 0)] := by kernel_rfl
theorem ag4 : tyAgg Try.prog 4 = some false := by kernel_rfl
theorem sz4 : tySz Try.prog 4 = some 1 := by kernel_rfl
theorem by4 : tyBy Try.prog 4 = some 1 := by kernel_rfl
theorem un4 : (Try.prog.underlying 4).isSome = true := by kernel_rfl
theorem ni4 : tyNoIf Try.prog 4 = true := by kernel_rfl
theorem zo4 : tyZ1 Try.prog 4 = some ((.bool false)) := by kernel_rfl
theorem kt4 : tyKsT Try.prog 4 = [none] := by kernel_rfl
theorem bo4 : tyBool Try.prog 4 = true := by kernel_rfl
theorem st4 : tyStr Try.prog 4 = false := by kernel_rfl
theorem ze4 : tyZ Try.prog 4 = some [.val (.bool false)] := by kernel_rfl
theorem ag5 : tyAgg Try.prog 5 = some false := by kernel_rfl
theorem sz5 : tySz Try.prog 5 = some 1 := by kernel_rfl
theorem by5 : tyBy Try.prog 5 = some 1 := by kernel_rfl
theorem un5 : (Try.prog.underlying 5).isSome = true := by kernel_rfl
theorem ni5 : tyNoIf Try.prog 5 = true := by kernel_rfl
theorem zo5 : tyZ1 Try.prog 5 = some ((.int .u8 0)) := by kernel_rfl
theorem kt5 : tyKsT Try.prog 5 = [none] := by kernel_rfl
theorem in5 : tyInt Try.prog 5 = some .u8 := by kernel_rfl
theorem bo5 : tyBool Try.prog 5 = false := by kernel_rfl
theorem st5 : tyStr Try.prog 5 = false := by kernel_rfl
theorem ze5 : tyZ Try.prog 5 = some [.val (.int .u8 0)] := by kernel_rfl
theorem ag6 : tyAgg Try.prog 6 = some false := by kernel_rfl
theorem sz6 : tySz Try.prog 6 = some 1 := by kernel_rfl
theorem by6 : tyBy Try.prog 6 = some 1 := by kernel_rfl
theorem un6 : (Try.prog.underlying 6).isSome = true := by kernel_rfl
theorem ni6 : tyNoIf Try.prog 6 = true := by kernel_rfl
theorem zo6 : tyZ1 Try.prog 6 = some ((.int .u8 0)) := by kernel_rfl
theorem kt6 : tyKsT Try.prog 6 = [none] := by kernel_rfl
theorem in6 : tyInt Try.prog 6 = some .u8 := by kernel_rfl
theorem bo6 : tyBool Try.prog 6 = false := by kernel_rfl
theorem st6 : tyStr Try.prog 6 = false := by kernel_rfl
theorem ze6 : tyZ Try.prog 6 = some [.val (.int .u8 0)] := by kernel_rfl
theorem ag7 : tyAgg Try.prog 7 = some true := by kernel_rfl
theorem sz7 : tySz Try.prog 7 = some 4 := by kernel_rfl
theorem by7 : tyBy Try.prog 7 = some 24 := by kernel_rfl
theorem un7 : (Try.prog.underlying 7).isSome = true := by kernel_rfl
theorem ni7 : tyNoIf Try.prog 7 = true := by kernel_rfl
theorem kt7 : tyKsT Try.prog 7 = [none, none, none, none] := by kernel_rfl
theorem bo7 : tyBool Try.prog 7 = false := by kernel_rfl
theorem st7 : tyStr Try.prog 7 = false := by kernel_rfl
theorem ze7 : tyZ Try.prog 7 = some [.val (.int .i64 0), .val (.int .i64 0), .val (.bool false), .val (.int .u8 0)] := by kernel_rfl
theorem fi7 : tyF Try.prog 7 = some [(0, 1), (1, 1), (2, 1), (3, 1)] := by kernel_rfl
theorem fa7_0 : tyFA Try.prog 7 0 = some 0 := by kernel_rfl
theorem ft7_0 : tyFT Try.prog 7 0 = some (0, 2) := by kernel_rfl
theorem fa7_1 : tyFA Try.prog 7 1 = some 1 := by kernel_rfl
theorem ft7_1 : tyFT Try.prog 7 1 = some (1, 3) := by kernel_rfl
theorem fa7_2 : tyFA Try.prog 7 2 = some 2 := by kernel_rfl
theorem ft7_2 : tyFT Try.prog 7 2 = some (2, 4) := by kernel_rfl
theorem fa7_3 : tyFA Try.prog 7 3 = some 3 := by kernel_rfl
theorem ft7_3 : tyFT Try.prog 7 3 = some (3, 6) := by kernel_rfl
theorem ag8 : tyAgg Try.prog 8 = some true := by kernel_rfl
theorem sz8 : tySz Try.prog 8 = some 4 := by kernel_rfl
theorem by8 : tyBy Try.prog 8 = some 24 := by kernel_rfl
theorem un8 : (Try.prog.underlying 8).isSome = true := by kernel_rfl
theorem ni8 : tyNoIf Try.prog 8 = true := by kernel_rfl
theorem kt8 : tyKsT Try.prog 8 = [none, none, none, none] := by kernel_rfl
theorem bo8 : tyBool Try.prog 8 = false := by kernel_rfl
theorem st8 : tyStr Try.prog 8 = false := by kernel_rfl
theorem ze8 : tyZ Try.prog 8 = some [.val (.int .i64 0), .val (.int .i64 0), .val (.bool false), .val (.int .u8 0)] := by kernel_rfl
theorem fi8 : tyF Try.prog 8 = some [(0, 1), (1, 1), (2, 1), (3, 1)] := by kernel_rfl
theorem fa8_0 : tyFA Try.prog 8 0 = some 0 := by kernel_rfl
theorem ft8_0 : tyFT Try.prog 8 0 = some (0, 2) := by kernel_rfl
theorem fa8_1 : tyFA Try.prog 8 1 = some 1 := by kernel_rfl
theorem ft8_1 : tyFT Try.prog 8 1 = some (1, 3) := by kernel_rfl
theorem fa8_2 : tyFA Try.prog 8 2 = some 2 := by kernel_rfl
theorem ft8_2 : tyFT Try.prog 8 2 = some (2, 4) := by kernel_rfl
theorem fa8_3 : tyFA Try.prog 8 3 = some 3 := by kernel_rfl
theorem ft8_3 : tyFT Try.prog 8 3 = some (3, 6) := by kernel_rfl
theorem ag9 : tyAgg Try.prog 9 = some false := by kernel_rfl
theorem sz9 : tySz Try.prog 9 = some 1 := by kernel_rfl
theorem by9 : tyBy Try.prog 9 = some 16 := by kernel_rfl
theorem un9 : (Try.prog.underlying 9).isSome = true := by kernel_rfl
theorem ni9 : tyNoIf Try.prog 9 = true := by kernel_rfl
theorem zo9 : tyZ1 Try.prog 9 = some ((.string ⟨#[]⟩)) := by kernel_rfl
theorem kt9 : tyKsT Try.prog 9 = [none] := by kernel_rfl
theorem bo9 : tyBool Try.prog 9 = false := by kernel_rfl
theorem st9 : tyStr Try.prog 9 = true := by kernel_rfl
theorem ze9 : tyZ Try.prog 9 = some [.val (.string ⟨#[]⟩)] := by kernel_rfl
theorem ag10 : tyAgg Try.prog 10 = some false := by kernel_rfl
theorem sz10 : tySz Try.prog 10 = some 1 := by kernel_rfl
theorem by10 : tyBy Try.prog 10 = some 16 := by kernel_rfl
theorem un10 : (Try.prog.underlying 10).isSome = true := by kernel_rfl
theorem ni10 : tyNoIf Try.prog 10 = true := by kernel_rfl
theorem zo10 : tyZ1 Try.prog 10 = some ((.string ⟨#[]⟩)) := by kernel_rfl
theorem kt10 : tyKsT Try.prog 10 = [none] := by kernel_rfl
theorem bo10 : tyBool Try.prog 10 = false := by kernel_rfl
theorem st10 : tyStr Try.prog 10 = true := by kernel_rfl
theorem ze10 : tyZ Try.prog 10 = some [.val (.string ⟨#[]⟩)] := by kernel_rfl
theorem ag11 : tyAgg Try.prog 11 = some false := by kernel_rfl
theorem sz11 : tySz Try.prog 11 = some 1 := by kernel_rfl
theorem by11 : tyBy Try.prog 11 = some 16 := by kernel_rfl
theorem un11 : (Try.prog.underlying 11).isSome = true := by kernel_rfl
theorem ni11 : tyNoIf Try.prog 11 = true := by kernel_rfl
theorem zo11 : tyZ1 Try.prog 11 = some ((.string ⟨#[]⟩)) := by kernel_rfl
theorem kt11 : tyKsT Try.prog 11 = [none] := by kernel_rfl
theorem bo11 : tyBool Try.prog 11 = false := by kernel_rfl
theorem st11 : tyStr Try.prog 11 = true := by kernel_rfl
theorem ze11 : tyZ Try.prog 11 = some [.val (.string ⟨#[]⟩)] := by kernel_rfl
theorem ag12 : tyAgg Try.prog 12 = some false := by kernel_rfl
theorem sz12 : tySz Try.prog 12 = some 1 := by kernel_rfl
theorem by12 : tyBy Try.prog 12 = some 8 := by kernel_rfl
theorem un12 : (Try.prog.underlying 12).isSome = true := by kernel_rfl
theorem ni12 : tyNoIf Try.prog 12 = true := by kernel_rfl
theorem zo12 : tyZ1 Try.prog 12 = some ((.int .u64 0)) := by kernel_rfl
theorem kt12 : tyKsT Try.prog 12 = [none] := by kernel_rfl
theorem in12 : tyInt Try.prog 12 = some .u64 := by kernel_rfl
theorem bo12 : tyBool Try.prog 12 = false := by kernel_rfl
theorem st12 : tyStr Try.prog 12 = false := by kernel_rfl
theorem ze12 : tyZ Try.prog 12 = some [.val (.int .u64 0)] := by kernel_rfl
theorem ag13 : tyAgg Try.prog 13 = some true := by kernel_rfl
theorem sz13 : tySz Try.prog 13 = some 2 := by kernel_rfl
theorem by13 : tyBy Try.prog 13 = some 24 := by kernel_rfl
theorem un13 : (Try.prog.underlying 13).isSome = true := by kernel_rfl
theorem ni13 : tyNoIf Try.prog 13 = true := by kernel_rfl
theorem kt13 : tyKsT Try.prog 13 = [none, none] := by kernel_rfl
theorem bo13 : tyBool Try.prog 13 = false := by kernel_rfl
theorem st13 : tyStr Try.prog 13 = false := by kernel_rfl
theorem ze13 : tyZ Try.prog 13 = some [.val (.string ⟨#[]⟩), .val (.int .u64 0)] := by kernel_rfl
theorem fi13 : tyF Try.prog 13 = some [(0, 1), (1, 1)] := by kernel_rfl
theorem fa13_0 : tyFA Try.prog 13 0 = some 0 := by kernel_rfl
theorem ft13_0 : tyFT Try.prog 13 0 = some (0, 9) := by kernel_rfl
theorem fa13_1 : tyFA Try.prog 13 1 = some 1 := by kernel_rfl
theorem ft13_1 : tyFT Try.prog 13 1 = some (1, 12) := by kernel_rfl
theorem ag14 : tyAgg Try.prog 14 = some true := by kernel_rfl
theorem sz14 : tySz Try.prog 14 = some 2 := by kernel_rfl
theorem by14 : tyBy Try.prog 14 = some 24 := by kernel_rfl
theorem un14 : (Try.prog.underlying 14).isSome = true := by kernel_rfl
theorem ni14 : tyNoIf Try.prog 14 = true := by kernel_rfl
theorem kt14 : tyKsT Try.prog 14 = [none, none] := by kernel_rfl
theorem bo14 : tyBool Try.prog 14 = false := by kernel_rfl
theorem st14 : tyStr Try.prog 14 = false := by kernel_rfl
theorem ze14 : tyZ Try.prog 14 = some [.val (.string ⟨#[]⟩), .val (.int .u64 0)] := by kernel_rfl
theorem fi14 : tyF Try.prog 14 = some [(0, 1), (1, 1)] := by kernel_rfl
theorem fa14_0 : tyFA Try.prog 14 0 = some 0 := by kernel_rfl
theorem ft14_0 : tyFT Try.prog 14 0 = some (0, 9) := by kernel_rfl
theorem fa14_1 : tyFA Try.prog 14 1 = some 1 := by kernel_rfl
theorem ft14_1 : tyFT Try.prog 14 1 = some (1, 12) := by kernel_rfl
theorem nk15 : tyNil Try.prog 15 = some .pointer := by kernel_rfl
theorem ag15 : tyAgg Try.prog 15 = some false := by kernel_rfl
theorem sz15 : tySz Try.prog 15 = some 1 := by kernel_rfl
theorem by15 : tyBy Try.prog 15 = some 8 := by kernel_rfl
theorem un15 : (Try.prog.underlying 15).isSome = true := by kernel_rfl
theorem ni15 : tyNoIf Try.prog 15 = true := by kernel_rfl
theorem zo15 : tyZ1 Try.prog 15 = some ((.pointer none)) := by kernel_rfl
theorem kt15 : tyKsT Try.prog 15 = [none] := by kernel_rfl
theorem bo15 : tyBool Try.prog 15 = false := by kernel_rfl
theorem st15 : tyStr Try.prog 15 = false := by kernel_rfl
theorem ze15 : tyZ Try.prog 15 = some [.val (.pointer none)] := by kernel_rfl
theorem nk16 : tyNil Try.prog 16 = some .pointer := by kernel_rfl
theorem ag16 : tyAgg Try.prog 16 = some false := by kernel_rfl
theorem sz16 : tySz Try.prog 16 = some 1 := by kernel_rfl
theorem by16 : tyBy Try.prog 16 = some 8 := by kernel_rfl
theorem un16 : (Try.prog.underlying 16).isSome = true := by kernel_rfl
theorem ni16 : tyNoIf Try.prog 16 = true := by kernel_rfl
theorem zo16 : tyZ1 Try.prog 16 = some ((.pointer none)) := by kernel_rfl
theorem kt16 : tyKsT Try.prog 16 = [none] := by kernel_rfl
theorem bo16 : tyBool Try.prog 16 = false := by kernel_rfl
theorem st16 : tyStr Try.prog 16 = false := by kernel_rfl
theorem ze16 : tyZ Try.prog 16 = some [.val (.pointer none)] := by kernel_rfl
theorem nk17 : tyNil Try.prog 17 = some .pointer := by kernel_rfl
theorem ag17 : tyAgg Try.prog 17 = some false := by kernel_rfl
theorem sz17 : tySz Try.prog 17 = some 1 := by kernel_rfl
theorem by17 : tyBy Try.prog 17 = some 8 := by kernel_rfl
theorem un17 : (Try.prog.underlying 17).isSome = true := by kernel_rfl
theorem ni17 : tyNoIf Try.prog 17 = true := by kernel_rfl
theorem zo17 : tyZ1 Try.prog 17 = some ((.pointer none)) := by kernel_rfl
theorem kt17 : tyKsT Try.prog 17 = [none] := by kernel_rfl
theorem bo17 : tyBool Try.prog 17 = false := by kernel_rfl
theorem st17 : tyStr Try.prog 17 = false := by kernel_rfl
theorem ze17 : tyZ Try.prog 17 = some [.val (.pointer none)] := by kernel_rfl
theorem ag18 : tyAgg Try.prog 18 = some true := by kernel_rfl
theorem sz18 : tySz Try.prog 18 = some 1 := by kernel_rfl
theorem by18 : tyBy Try.prog 18 = some 8 := by kernel_rfl
theorem un18 : (Try.prog.underlying 18).isSome = true := by kernel_rfl
theorem ni18 : tyNoIf Try.prog 18 = true := by kernel_rfl
theorem kt18 : tyKsT Try.prog 18 = [none] := by kernel_rfl
theorem bo18 : tyBool Try.prog 18 = false := by kernel_rfl
theorem st18 : tyStr Try.prog 18 = false := by kernel_rfl
theorem ze18 : tyZ Try.prog 18 = some [.val (.pointer none)] := by kernel_rfl
theorem fi18 : tyF Try.prog 18 = some [(0, 1)] := by kernel_rfl
theorem fa18_0 : tyFA Try.prog 18 0 = some 0 := by kernel_rfl
theorem ft18_0 : tyFT Try.prog 18 0 = some (0, 17) := by kernel_rfl
theorem ag19 : tyAgg Try.prog 19 = some true := by kernel_rfl
theorem sz19 : tySz Try.prog 19 = some 1 := by kernel_rfl
theorem by19 : tyBy Try.prog 19 = some 8 := by kernel_rfl
theorem un19 : (Try.prog.underlying 19).isSome = true := by kernel_rfl
theorem ni19 : tyNoIf Try.prog 19 = true := by kernel_rfl
theorem kt19 : tyKsT Try.prog 19 = [none] := by kernel_rfl
theorem bo19 : tyBool Try.prog 19 = false := by kernel_rfl
theorem st19 : tyStr Try.prog 19 = false := by kernel_rfl
theorem ze19 : tyZ Try.prog 19 = some [.val (.pointer none)] := by kernel_rfl
theorem fi19 : tyF Try.prog 19 = some [(0, 1)] := by kernel_rfl
theorem fa19_0 : tyFA Try.prog 19 0 = some 0 := by kernel_rfl
theorem ft19_0 : tyFT Try.prog 19 0 = some (0, 17) := by kernel_rfl
theorem nk20 : tyNil Try.prog 20 = some .iface := by kernel_rfl
theorem ag20 : tyAgg Try.prog 20 = some false := by kernel_rfl
theorem sz20 : tySz Try.prog 20 = some 1 := by kernel_rfl
theorem by20 : tyBy Try.prog 20 = some 16 := by kernel_rfl
theorem un20 : (Try.prog.underlying 20).isSome = true := by kernel_rfl
theorem ni20 : tyNoIf Try.prog 20 = false := by kernel_rfl
theorem kt20 : tyKsT Try.prog 20 = [none] := by kernel_rfl
theorem bo20 : tyBool Try.prog 20 = false := by kernel_rfl
theorem st20 : tyStr Try.prog 20 = false := by kernel_rfl
theorem ze20 : tyZ Try.prog 20 = some [.val .nilIface] := by kernel_rfl
theorem ag21 : tyAgg Try.prog 21 = some false := by kernel_rfl
theorem sz21 : tySz Try.prog 21 = some 1 := by kernel_rfl
theorem by21 : tyBy Try.prog 21 = some 4 := by kernel_rfl
theorem un21 : (Try.prog.underlying 21).isSome = true := by kernel_rfl
theorem ni21 : tyNoIf Try.prog 21 = true := by kernel_rfl
theorem zo21 : tyZ1 Try.prog 21 = some ((.int .i32 0)) := by kernel_rfl
theorem kt21 : tyKsT Try.prog 21 = [none] := by kernel_rfl
theorem in21 : tyInt Try.prog 21 = some .i32 := by kernel_rfl
theorem bo21 : tyBool Try.prog 21 = false := by kernel_rfl
theorem st21 : tyStr Try.prog 21 = false := by kernel_rfl
theorem ze21 : tyZ Try.prog 21 = some [.val (.int .i32 0)] := by kernel_rfl
theorem nk22 : tyNil Try.prog 22 = some .slice := by kernel_rfl
theorem ag22 : tyAgg Try.prog 22 = some false := by kernel_rfl
theorem sz22 : tySz Try.prog 22 = some 1 := by kernel_rfl
theorem by22 : tyBy Try.prog 22 = some 24 := by kernel_rfl
theorem un22 : (Try.prog.underlying 22).isSome = true := by kernel_rfl
theorem ni22 : tyNoIf Try.prog 22 = true := by kernel_rfl
theorem zo22 : tyZ1 Try.prog 22 = some ((.slice none 0 0)) := by kernel_rfl
theorem ke22 : tyKsE Try.prog 22 = [none] := by kernel_rfl
theorem kt22 : tyKsT Try.prog 22 = [some 1] := by kernel_rfl
theorem el22 : tyEl Try.prog 22 = some 9 := by kernel_rfl
theorem bo22 : tyBool Try.prog 22 = false := by kernel_rfl
theorem st22 : tyStr Try.prog 22 = false := by kernel_rfl
theorem ze22 : tyZ Try.prog 22 = some [.val (.slice none 0 0)] := by kernel_rfl
theorem nk23 : tyNil Try.prog 23 = some .func := by kernel_rfl
theorem ag23 : tyAgg Try.prog 23 = some false := by kernel_rfl
theorem sz23 : tySz Try.prog 23 = some 1 := by kernel_rfl
theorem by23 : tyBy Try.prog 23 = some 8 := by kernel_rfl
theorem un23 : (Try.prog.underlying 23).isSome = true := by kernel_rfl
theorem ni23 : tyNoIf Try.prog 23 = true := by kernel_rfl
theorem kt23 : tyKsT Try.prog 23 = [none] := by kernel_rfl
theorem bo23 : tyBool Try.prog 23 = false := by kernel_rfl
theorem st23 : tyStr Try.prog 23 = false := by kernel_rfl
theorem ze23 : tyZ Try.prog 23 = some [.val .nilFunc] := by kernel_rfl
theorem nk24 : tyNil Try.prog 24 = some .pointer := by kernel_rfl
theorem ag24 : tyAgg Try.prog 24 = some false := by kernel_rfl
theorem sz24 : tySz Try.prog 24 = some 1 := by kernel_rfl
theorem by24 : tyBy Try.prog 24 = some 8 := by kernel_rfl
theorem un24 : (Try.prog.underlying 24).isSome = true := by kernel_rfl
theorem ni24 : tyNoIf Try.prog 24 = true := by kernel_rfl
theorem zo24 : tyZ1 Try.prog 24 = some ((.pointer none)) := by kernel_rfl
theorem kt24 : tyKsT Try.prog 24 = [none] := by kernel_rfl
theorem bo24 : tyBool Try.prog 24 = false := by kernel_rfl
theorem st24 : tyStr Try.prog 24 = false := by kernel_rfl
theorem ze24 : tyZ Try.prog 24 = some [.val (.pointer none)] := by kernel_rfl
theorem ag25 : tyAgg Try.prog 25 = some false := by kernel_rfl
theorem sz25 : tySz Try.prog 25 = some 1 := by kernel_rfl
theorem by25 : tyBy Try.prog 25 = some 8 := by kernel_rfl
theorem un25 : (Try.prog.underlying 25).isSome = true := by kernel_rfl
theorem ni25 : tyNoIf Try.prog 25 = true := by kernel_rfl
theorem zo25 : tyZ1 Try.prog 25 = some ((.int .i64 0)) := by kernel_rfl
theorem kt25 : tyKsT Try.prog 25 = [none] := by kernel_rfl
theorem in25 : tyInt Try.prog 25 = some .i64 := by kernel_rfl
theorem bo25 : tyBool Try.prog 25 = false := by kernel_rfl
theorem st25 : tyStr Try.prog 25 = false := by kernel_rfl
theorem ze25 : tyZ Try.prog 25 = some [.val (.int .i64 0)] := by kernel_rfl
theorem nk27 : tyNil Try.prog 27 = some .func := by kernel_rfl
theorem ag27 : tyAgg Try.prog 27 = some false := by kernel_rfl
theorem sz27 : tySz Try.prog 27 = some 1 := by kernel_rfl
theorem by27 : tyBy Try.prog 27 = some 8 := by kernel_rfl
theorem un27 : (Try.prog.underlying 27).isSome = true := by kernel_rfl
theorem ni27 : tyNoIf Try.prog 27 = true := by kernel_rfl
theorem kt27 : tyKsT Try.prog 27 = [none] := by kernel_rfl
theorem bo27 : tyBool Try.prog 27 = false := by kernel_rfl
theorem st27 : tyStr Try.prog 27 = false := by kernel_rfl
theorem ze27 : tyZ Try.prog 27 = some [.val .nilFunc] := by kernel_rfl
theorem nk29 : tyNil Try.prog 29 = some .func := by kernel_rfl
theorem ag29 : tyAgg Try.prog 29 = some false := by kernel_rfl
theorem sz29 : tySz Try.prog 29 = some 1 := by kernel_rfl
theorem by29 : tyBy Try.prog 29 = some 8 := by kernel_rfl
theorem un29 : (Try.prog.underlying 29).isSome = true := by kernel_rfl
theorem ni29 : tyNoIf Try.prog 29 = true := by kernel_rfl
theorem kt29 : tyKsT Try.prog 29 = [none] := by kernel_rfl
theorem bo29 : tyBool Try.prog 29 = false := by kernel_rfl
theorem st29 : tyStr Try.prog 29 = false := by kernel_rfl
theorem ze29 : tyZ Try.prog 29 = some [.val .nilFunc] := by kernel_rfl
theorem nk30 : tyNil Try.prog 30 = some .func := by kernel_rfl
theorem ag30 : tyAgg Try.prog 30 = some false := by kernel_rfl
theorem sz30 : tySz Try.prog 30 = some 1 := by kernel_rfl
theorem by30 : tyBy Try.prog 30 = some 8 := by kernel_rfl
theorem un30 : (Try.prog.underlying 30).isSome = true := by kernel_rfl
theorem ni30 : tyNoIf Try.prog 30 = true := by kernel_rfl
theorem kt30 : tyKsT Try.prog 30 = [none] := by kernel_rfl
theorem bo30 : tyBool Try.prog 30 = false := by kernel_rfl
theorem st30 : tyStr Try.prog 30 = false := by kernel_rfl
theorem ze30 : tyZ Try.prog 30 = some [.val .nilFunc] := by kernel_rfl
theorem nk31 : tyNil Try.prog 31 = some .func := by kernel_rfl
theorem ag31 : tyAgg Try.prog 31 = some false := by kernel_rfl
theorem sz31 : tySz Try.prog 31 = some 1 := by kernel_rfl
theorem by31 : tyBy Try.prog 31 = some 8 := by kernel_rfl
theorem un31 : (Try.prog.underlying 31).isSome = true := by kernel_rfl
theorem ni31 : tyNoIf Try.prog 31 = true := by kernel_rfl
theorem kt31 : tyKsT Try.prog 31 = [none] := by kernel_rfl
theorem bo31 : tyBool Try.prog 31 = false := by kernel_rfl
theorem st31 : tyStr Try.prog 31 = false := by kernel_rfl
theorem ze31 : tyZ Try.prog 31 = some [.val .nilFunc] := by kernel_rfl
theorem nk32 : tyNil Try.prog 32 = some .func := by kernel_rfl
theorem ag32 : tyAgg Try.prog 32 = some false := by kernel_rfl
theorem sz32 : tySz Try.prog 32 = some 1 := by kernel_rfl
theorem by32 : tyBy Try.prog 32 = some 8 := by kernel_rfl
theorem un32 : (Try.prog.underlying 32).isSome = true := by kernel_rfl
theorem ni32 : tyNoIf Try.prog 32 = true := by kernel_rfl
theorem kt32 : tyKsT Try.prog 32 = [none] := by kernel_rfl
theorem bo32 : tyBool Try.prog 32 = false := by kernel_rfl
theorem st32 : tyStr Try.prog 32 = false := by kernel_rfl
theorem ze32 : tyZ Try.prog 32 = some [.val .nilFunc] := by kernel_rfl
theorem nk34 : tyNil Try.prog 34 = some .func := by kernel_rfl
theorem ag34 : tyAgg Try.prog 34 = some false := by kernel_rfl
theorem sz34 : tySz Try.prog 34 = some 1 := by kernel_rfl
theorem by34 : tyBy Try.prog 34 = some 8 := by kernel_rfl
theorem un34 : (Try.prog.underlying 34).isSome = true := by kernel_rfl
theorem ni34 : tyNoIf Try.prog 34 = true := by kernel_rfl
theorem kt34 : tyKsT Try.prog 34 = [none] := by kernel_rfl
theorem bo34 : tyBool Try.prog 34 = false := by kernel_rfl
theorem st34 : tyStr Try.prog 34 = false := by kernel_rfl
theorem ze34 : tyZ Try.prog 34 = some [.val .nilFunc] := by kernel_rfl
theorem nk35 : tyNil Try.prog 35 = some .func := by kernel_rfl
theorem ag35 : tyAgg Try.prog 35 = some false := by kernel_rfl
theorem sz35 : tySz Try.prog 35 = some 1 := by kernel_rfl
theorem by35 : tyBy Try.prog 35 = some 8 := by kernel_rfl
theorem un35 : (Try.prog.underlying 35).isSome = true := by kernel_rfl
theorem ni35 : tyNoIf Try.prog 35 = true := by kernel_rfl
theorem kt35 : tyKsT Try.prog 35 = [none] := by kernel_rfl
theorem bo35 : tyBool Try.prog 35 = false := by kernel_rfl
theorem st35 : tyStr Try.prog 35 = false := by kernel_rfl
theorem ze35 : tyZ Try.prog 35 = some [.val .nilFunc] := by kernel_rfl
theorem nk36 : tyNil Try.prog 36 = some .func := by kernel_rfl
theorem ag36 : tyAgg Try.prog 36 = some false := by kernel_rfl
theorem sz36 : tySz Try.prog 36 = some 1 := by kernel_rfl
theorem by36 : tyBy Try.prog 36 = some 8 := by kernel_rfl
theorem un36 : (Try.prog.underlying 36).isSome = true := by kernel_rfl
theorem ni36 : tyNoIf Try.prog 36 = true := by kernel_rfl
theorem kt36 : tyKsT Try.prog 36 = [none] := by kernel_rfl
theorem bo36 : tyBool Try.prog 36 = false := by kernel_rfl
theorem st36 : tyStr Try.prog 36 = false := by kernel_rfl
theorem ze36 : tyZ Try.prog 36 = some [.val .nilFunc] := by kernel_rfl
theorem nk37 : tyNil Try.prog 37 = some .func := by kernel_rfl
theorem ag37 : tyAgg Try.prog 37 = some false := by kernel_rfl
theorem sz37 : tySz Try.prog 37 = some 1 := by kernel_rfl
theorem by37 : tyBy Try.prog 37 = some 8 := by kernel_rfl
theorem un37 : (Try.prog.underlying 37).isSome = true := by kernel_rfl
theorem ni37 : tyNoIf Try.prog 37 = true := by kernel_rfl
theorem kt37 : tyKsT Try.prog 37 = [none] := by kernel_rfl
theorem bo37 : tyBool Try.prog 37 = false := by kernel_rfl
theorem st37 : tyStr Try.prog 37 = false := by kernel_rfl
theorem ze37 : tyZ Try.prog 37 = some [.val .nilFunc] := by kernel_rfl
theorem nk38 : tyNil Try.prog 38 = some .func := by kernel_rfl
theorem ag38 : tyAgg Try.prog 38 = some false := by kernel_rfl
theorem sz38 : tySz Try.prog 38 = some 1 := by kernel_rfl
theorem by38 : tyBy Try.prog 38 = some 8 := by kernel_rfl
theorem un38 : (Try.prog.underlying 38).isSome = true := by kernel_rfl
theorem ni38 : tyNoIf Try.prog 38 = true := by kernel_rfl
theorem kt38 : tyKsT Try.prog 38 = [none] := by kernel_rfl
theorem bo38 : tyBool Try.prog 38 = false := by kernel_rfl
theorem st38 : tyStr Try.prog 38 = false := by kernel_rfl
theorem ze38 : tyZ Try.prog 38 = some [.val .nilFunc] := by kernel_rfl
theorem nk39 : tyNil Try.prog 39 = some .func := by kernel_rfl
theorem ag39 : tyAgg Try.prog 39 = some false := by kernel_rfl
theorem sz39 : tySz Try.prog 39 = some 1 := by kernel_rfl
theorem by39 : tyBy Try.prog 39 = some 8 := by kernel_rfl
theorem un39 : (Try.prog.underlying 39).isSome = true := by kernel_rfl
theorem ni39 : tyNoIf Try.prog 39 = true := by kernel_rfl
theorem kt39 : tyKsT Try.prog 39 = [none] := by kernel_rfl
theorem bo39 : tyBool Try.prog 39 = false := by kernel_rfl
theorem st39 : tyStr Try.prog 39 = false := by kernel_rfl
theorem ze39 : tyZ Try.prog 39 = some [.val .nilFunc] := by kernel_rfl
theorem nk40 : tyNil Try.prog 40 = some .func := by kernel_rfl
theorem ag40 : tyAgg Try.prog 40 = some false := by kernel_rfl
theorem sz40 : tySz Try.prog 40 = some 1 := by kernel_rfl
theorem by40 : tyBy Try.prog 40 = some 8 := by kernel_rfl
theorem un40 : (Try.prog.underlying 40).isSome = true := by kernel_rfl
theorem ni40 : tyNoIf Try.prog 40 = true := by kernel_rfl
theorem kt40 : tyKsT Try.prog 40 = [none] := by kernel_rfl
theorem bo40 : tyBool Try.prog 40 = false := by kernel_rfl
theorem st40 : tyStr Try.prog 40 = false := by kernel_rfl
theorem ze40 : tyZ Try.prog 40 = some [.val .nilFunc] := by kernel_rfl
theorem nk41 : tyNil Try.prog 41 = some .slice := by kernel_rfl
theorem ag41 : tyAgg Try.prog 41 = some false := by kernel_rfl
theorem sz41 : tySz Try.prog 41 = some 1 := by kernel_rfl
theorem by41 : tyBy Try.prog 41 = some 24 := by kernel_rfl
theorem un41 : (Try.prog.underlying 41).isSome = true := by kernel_rfl
theorem ni41 : tyNoIf Try.prog 41 = true := by kernel_rfl
theorem zo41 : tyZ1 Try.prog 41 = some ((.slice none 0 0)) := by kernel_rfl
theorem ke41 : tyKsE Try.prog 41 = [some 1] := by kernel_rfl
theorem kt41 : tyKsT Try.prog 41 = [some 1] := by kernel_rfl
theorem el41 : tyEl Try.prog 41 = some 55 := by kernel_rfl
theorem bo41 : tyBool Try.prog 41 = false := by kernel_rfl
theorem st41 : tyStr Try.prog 41 = false := by kernel_rfl
theorem ze41 : tyZ Try.prog 41 = some [.val (.slice none 0 0)] := by kernel_rfl
theorem nk43 : tyNil Try.prog 43 = some .func := by kernel_rfl
theorem ag43 : tyAgg Try.prog 43 = some false := by kernel_rfl
theorem sz43 : tySz Try.prog 43 = some 1 := by kernel_rfl
theorem by43 : tyBy Try.prog 43 = some 8 := by kernel_rfl
theorem un43 : (Try.prog.underlying 43).isSome = true := by kernel_rfl
theorem ni43 : tyNoIf Try.prog 43 = true := by kernel_rfl
theorem kt43 : tyKsT Try.prog 43 = [none] := by kernel_rfl
theorem bo43 : tyBool Try.prog 43 = false := by kernel_rfl
theorem st43 : tyStr Try.prog 43 = false := by kernel_rfl
theorem ze43 : tyZ Try.prog 43 = some [.val .nilFunc] := by kernel_rfl
theorem nk44 : tyNil Try.prog 44 = some .func := by kernel_rfl
theorem ag44 : tyAgg Try.prog 44 = some false := by kernel_rfl
theorem sz44 : tySz Try.prog 44 = some 1 := by kernel_rfl
theorem by44 : tyBy Try.prog 44 = some 8 := by kernel_rfl
theorem un44 : (Try.prog.underlying 44).isSome = true := by kernel_rfl
theorem ni44 : tyNoIf Try.prog 44 = true := by kernel_rfl
theorem kt44 : tyKsT Try.prog 44 = [none] := by kernel_rfl
theorem bo44 : tyBool Try.prog 44 = false := by kernel_rfl
theorem st44 : tyStr Try.prog 44 = false := by kernel_rfl
theorem ze44 : tyZ Try.prog 44 = some [.val .nilFunc] := by kernel_rfl
theorem nk46 : tyNil Try.prog 46 = some .func := by kernel_rfl
theorem ag46 : tyAgg Try.prog 46 = some false := by kernel_rfl
theorem sz46 : tySz Try.prog 46 = some 1 := by kernel_rfl
theorem by46 : tyBy Try.prog 46 = some 8 := by kernel_rfl
theorem un46 : (Try.prog.underlying 46).isSome = true := by kernel_rfl
theorem ni46 : tyNoIf Try.prog 46 = true := by kernel_rfl
theorem kt46 : tyKsT Try.prog 46 = [none] := by kernel_rfl
theorem bo46 : tyBool Try.prog 46 = false := by kernel_rfl
theorem st46 : tyStr Try.prog 46 = false := by kernel_rfl
theorem ze46 : tyZ Try.prog 46 = some [.val .nilFunc] := by kernel_rfl
theorem nk47 : tyNil Try.prog 47 = some .func := by kernel_rfl
theorem ag47 : tyAgg Try.prog 47 = some false := by kernel_rfl
theorem sz47 : tySz Try.prog 47 = some 1 := by kernel_rfl
theorem by47 : tyBy Try.prog 47 = some 8 := by kernel_rfl
theorem un47 : (Try.prog.underlying 47).isSome = true := by kernel_rfl
theorem ni47 : tyNoIf Try.prog 47 = true := by kernel_rfl
theorem kt47 : tyKsT Try.prog 47 = [none] := by kernel_rfl
theorem bo47 : tyBool Try.prog 47 = false := by kernel_rfl
theorem st47 : tyStr Try.prog 47 = false := by kernel_rfl
theorem ze47 : tyZ Try.prog 47 = some [.val .nilFunc] := by kernel_rfl
theorem nk48 : tyNil Try.prog 48 = some .func := by kernel_rfl
theorem ag48 : tyAgg Try.prog 48 = some false := by kernel_rfl
theorem sz48 : tySz Try.prog 48 = some 1 := by kernel_rfl
theorem by48 : tyBy Try.prog 48 = some 8 := by kernel_rfl
theorem un48 : (Try.prog.underlying 48).isSome = true := by kernel_rfl
theorem ni48 : tyNoIf Try.prog 48 = true := by kernel_rfl
theorem kt48 : tyKsT Try.prog 48 = [none] := by kernel_rfl
theorem bo48 : tyBool Try.prog 48 = false := by kernel_rfl
theorem st48 : tyStr Try.prog 48 = false := by kernel_rfl
theorem ze48 : tyZ Try.prog 48 = some [.val .nilFunc] := by kernel_rfl
theorem nk49 : tyNil Try.prog 49 = some .func := by kernel_rfl
theorem ag49 : tyAgg Try.prog 49 = some false := by kernel_rfl
theorem sz49 : tySz Try.prog 49 = some 1 := by kernel_rfl
theorem by49 : tyBy Try.prog 49 = some 8 := by kernel_rfl
theorem un49 : (Try.prog.underlying 49).isSome = true := by kernel_rfl
theorem ni49 : tyNoIf Try.prog 49 = true := by kernel_rfl
theorem kt49 : tyKsT Try.prog 49 = [none] := by kernel_rfl
theorem bo49 : tyBool Try.prog 49 = false := by kernel_rfl
theorem st49 : tyStr Try.prog 49 = false := by kernel_rfl
theorem ze49 : tyZ Try.prog 49 = some [.val .nilFunc] := by kernel_rfl
theorem nk50 : tyNil Try.prog 50 = some .func := by kernel_rfl
theorem ag50 : tyAgg Try.prog 50 = some false := by kernel_rfl
theorem sz50 : tySz Try.prog 50 = some 1 := by kernel_rfl
theorem by50 : tyBy Try.prog 50 = some 8 := by kernel_rfl
theorem un50 : (Try.prog.underlying 50).isSome = true := by kernel_rfl
theorem ni50 : tyNoIf Try.prog 50 = true := by kernel_rfl
theorem kt50 : tyKsT Try.prog 50 = [none] := by kernel_rfl
theorem bo50 : tyBool Try.prog 50 = false := by kernel_rfl
theorem st50 : tyStr Try.prog 50 = false := by kernel_rfl
theorem ze50 : tyZ Try.prog 50 = some [.val .nilFunc] := by kernel_rfl
theorem nk51 : tyNil Try.prog 51 = some .func := by kernel_rfl
theorem ag51 : tyAgg Try.prog 51 = some false := by kernel_rfl
theorem sz51 : tySz Try.prog 51 = some 1 := by kernel_rfl
theorem by51 : tyBy Try.prog 51 = some 8 := by kernel_rfl
theorem un51 : (Try.prog.underlying 51).isSome = true := by kernel_rfl
theorem ni51 : tyNoIf Try.prog 51 = true := by kernel_rfl
theorem kt51 : tyKsT Try.prog 51 = [none] := by kernel_rfl
theorem bo51 : tyBool Try.prog 51 = false := by kernel_rfl
theorem st51 : tyStr Try.prog 51 = false := by kernel_rfl
theorem ze51 : tyZ Try.prog 51 = some [.val .nilFunc] := by kernel_rfl
theorem nk52 : tyNil Try.prog 52 = some .func := by kernel_rfl
theorem ag52 : tyAgg Try.prog 52 = some false := by kernel_rfl
theorem sz52 : tySz Try.prog 52 = some 1 := by kernel_rfl
theorem by52 : tyBy Try.prog 52 = some 8 := by kernel_rfl
theorem un52 : (Try.prog.underlying 52).isSome = true := by kernel_rfl
theorem ni52 : tyNoIf Try.prog 52 = true := by kernel_rfl
theorem kt52 : tyKsT Try.prog 52 = [none] := by kernel_rfl
theorem bo52 : tyBool Try.prog 52 = false := by kernel_rfl
theorem st52 : tyStr Try.prog 52 = false := by kernel_rfl
theorem ze52 : tyZ Try.prog 52 = some [.val .nilFunc] := by kernel_rfl
theorem nk53 : tyNil Try.prog 53 = some .func := by kernel_rfl
theorem ag53 : tyAgg Try.prog 53 = some false := by kernel_rfl
theorem sz53 : tySz Try.prog 53 = some 1 := by kernel_rfl
theorem by53 : tyBy Try.prog 53 = some 8 := by kernel_rfl
theorem un53 : (Try.prog.underlying 53).isSome = true := by kernel_rfl
theorem ni53 : tyNoIf Try.prog 53 = true := by kernel_rfl
theorem kt53 : tyKsT Try.prog 53 = [none] := by kernel_rfl
theorem bo53 : tyBool Try.prog 53 = false := by kernel_rfl
theorem st53 : tyStr Try.prog 53 = false := by kernel_rfl
theorem ze53 : tyZ Try.prog 53 = some [.val .nilFunc] := by kernel_rfl
theorem nk54 : tyNil Try.prog 54 = some .slice := by kernel_rfl
theorem ag54 : tyAgg Try.prog 54 = some false := by kernel_rfl
theorem sz54 : tySz Try.prog 54 = some 1 := by kernel_rfl
theorem by54 : tyBy Try.prog 54 = some 24 := by kernel_rfl
theorem un54 : (Try.prog.underlying 54).isSome = true := by kernel_rfl
theorem ni54 : tyNoIf Try.prog 54 = true := by kernel_rfl
theorem zo54 : tyZ1 Try.prog 54 = some ((.slice none 0 0)) := by kernel_rfl
theorem ke54 : tyKsE Try.prog 54 = [some 1] := by kernel_rfl
theorem kt54 : tyKsT Try.prog 54 = [some 1] := by kernel_rfl
theorem el54 : tyEl Try.prog 54 = some 22 := by kernel_rfl
theorem bo54 : tyBool Try.prog 54 = false := by kernel_rfl
theorem st54 : tyStr Try.prog 54 = false := by kernel_rfl
theorem ze54 : tyZ Try.prog 54 = some [.val (.slice none 0 0)] := by kernel_rfl
theorem nk55 : tyNil Try.prog 55 = some .slice := by kernel_rfl
theorem ag55 : tyAgg Try.prog 55 = some false := by kernel_rfl
theorem sz55 : tySz Try.prog 55 = some 1 := by kernel_rfl
theorem by55 : tyBy Try.prog 55 = some 24 := by kernel_rfl
theorem un55 : (Try.prog.underlying 55).isSome = true := by kernel_rfl
theorem ni55 : tyNoIf Try.prog 55 = true := by kernel_rfl
theorem zo55 : tyZ1 Try.prog 55 = some ((.slice none 0 0)) := by kernel_rfl
theorem ke55 : tyKsE Try.prog 55 = [none] := by kernel_rfl
theorem kt55 : tyKsT Try.prog 55 = [some 1] := by kernel_rfl
theorem el55 : tyEl Try.prog 55 = some 3 := by kernel_rfl
theorem bo55 : tyBool Try.prog 55 = false := by kernel_rfl
theorem st55 : tyStr Try.prog 55 = false := by kernel_rfl
theorem ze55 : tyZ Try.prog 55 = some [.val (.slice none 0 0)] := by kernel_rfl
theorem ag56 : tyAgg Try.prog 56 = some true := by kernel_rfl
theorem sz56 : tySz Try.prog 56 = some 4 := by kernel_rfl
theorem by56 : tyBy Try.prog 56 = some 80 := by kernel_rfl
theorem un56 : (Try.prog.underlying 56).isSome = true := by kernel_rfl
theorem ni56 : tyNoIf Try.prog 56 = true := by kernel_rfl
theorem kt56 : tyKsT Try.prog 56 = [none, some 1, some 1, some 1] := by kernel_rfl
theorem bo56 : tyBool Try.prog 56 = false := by kernel_rfl
theorem st56 : tyStr Try.prog 56 = false := by kernel_rfl
theorem ze56 : tyZ Try.prog 56 = some [.val (.int .i64 0), .val (.slice none 0 0), .val (.slice none 0 0), .val (.slice none 0 0)] := by kernel_rfl
theorem fi56 : tyF Try.prog 56 = some [(0, 1), (1, 1), (2, 1), (3, 1)] := by kernel_rfl
theorem fa56_0 : tyFA Try.prog 56 0 = some 0 := by kernel_rfl
theorem ft56_0 : tyFT Try.prog 56 0 = some (0, 3) := by kernel_rfl
theorem fa56_1 : tyFA Try.prog 56 1 = some 1 := by kernel_rfl
theorem ft56_1 : tyFT Try.prog 56 1 = some (1, 22) := by kernel_rfl
theorem fa56_2 : tyFA Try.prog 56 2 = some 2 := by kernel_rfl
theorem ft56_2 : tyFT Try.prog 56 2 = some (2, 54) := by kernel_rfl
theorem fa56_3 : tyFA Try.prog 56 3 = some 3 := by kernel_rfl
theorem ft56_3 : tyFT Try.prog 56 3 = some (3, 55) := by kernel_rfl
theorem ag57 : tyAgg Try.prog 57 = some true := by kernel_rfl
theorem sz57 : tySz Try.prog 57 = some 4 := by kernel_rfl
theorem by57 : tyBy Try.prog 57 = some 80 := by kernel_rfl
theorem un57 : (Try.prog.underlying 57).isSome = true := by kernel_rfl
theorem ni57 : tyNoIf Try.prog 57 = true := by kernel_rfl
theorem kt57 : tyKsT Try.prog 57 = [none, some 1, some 1, some 1] := by kernel_rfl
theorem bo57 : tyBool Try.prog 57 = false := by kernel_rfl
theorem st57 : tyStr Try.prog 57 = false := by kernel_rfl
theorem ze57 : tyZ Try.prog 57 = some [.val (.int .i64 0), .val (.slice none 0 0), .val (.slice none 0 0), .val (.slice none 0 0)] := by kernel_rfl
theorem fi57 : tyF Try.prog 57 = some [(0, 1), (1, 1), (2, 1), (3, 1)] := by kernel_rfl
theorem fa57_0 : tyFA Try.prog 57 0 = some 0 := by kernel_rfl
theorem ft57_0 : tyFT Try.prog 57 0 = some (0, 3) := by kernel_rfl
theorem fa57_1 : tyFA Try.prog 57 1 = some 1 := by kernel_rfl
theorem ft57_1 : tyFT Try.prog 57 1 = some (1, 22) := by kernel_rfl
theorem fa57_2 : tyFA Try.prog 57 2 = some 2 := by kernel_rfl
theorem ft57_2 : tyFT Try.prog 57 2 = some (2, 54) := by kernel_rfl
theorem fa57_3 : tyFA Try.prog 57 3 = some 3 := by kernel_rfl
theorem ft57_3 : tyFT Try.prog 57 3 = some (3, 55) := by kernel_rfl
theorem nk58 : tyNil Try.prog 58 = some .func := by kernel_rfl
theorem ag58 : tyAgg Try.prog 58 = some false := by kernel_rfl
theorem sz58 : tySz Try.prog 58 = some 1 := by kernel_rfl
theorem by58 : tyBy Try.prog 58 = some 8 := by kernel_rfl
theorem un58 : (Try.prog.underlying 58).isSome = true := by kernel_rfl
theorem ni58 : tyNoIf Try.prog 58 = true := by kernel_rfl
theorem kt58 : tyKsT Try.prog 58 = [none] := by kernel_rfl
theorem bo58 : tyBool Try.prog 58 = false := by kernel_rfl
theorem st58 : tyStr Try.prog 58 = false := by kernel_rfl
theorem ze58 : tyZ Try.prog 58 = some [.val .nilFunc] := by kernel_rfl
theorem nk59 : tyNil Try.prog 59 = some .func := by kernel_rfl
theorem ag59 : tyAgg Try.prog 59 = some false := by kernel_rfl
theorem sz59 : tySz Try.prog 59 = some 1 := by kernel_rfl
theorem by59 : tyBy Try.prog 59 = some 8 := by kernel_rfl
theorem un59 : (Try.prog.underlying 59).isSome = true := by kernel_rfl
theorem ni59 : tyNoIf Try.prog 59 = true := by kernel_rfl
theorem kt59 : tyKsT Try.prog 59 = [none] := by kernel_rfl
theorem bo59 : tyBool Try.prog 59 = false := by kernel_rfl
theorem st59 : tyStr Try.prog 59 = false := by kernel_rfl
theorem ze59 : tyZ Try.prog 59 = some [.val .nilFunc] := by kernel_rfl
theorem nk60 : tyNil Try.prog 60 = some .func := by kernel_rfl
theorem ag60 : tyAgg Try.prog 60 = some false := by kernel_rfl
theorem sz60 : tySz Try.prog 60 = some 1 := by kernel_rfl
theorem by60 : tyBy Try.prog 60 = some 8 := by kernel_rfl
theorem un60 : (Try.prog.underlying 60).isSome = true := by kernel_rfl
theorem ni60 : tyNoIf Try.prog 60 = true := by kernel_rfl
theorem kt60 : tyKsT Try.prog 60 = [none] := by kernel_rfl
theorem bo60 : tyBool Try.prog 60 = false := by kernel_rfl
theorem st60 : tyStr Try.prog 60 = false := by kernel_rfl
theorem ze60 : tyZ Try.prog 60 = some [.val .nilFunc] := by kernel_rfl
theorem nk61 : tyNil Try.prog 61 = some .func := by kernel_rfl
theorem ag61 : tyAgg Try.prog 61 = some false := by kernel_rfl
theorem sz61 : tySz Try.prog 61 = some 1 := by kernel_rfl
theorem by61 : tyBy Try.prog 61 = some 8 := by kernel_rfl
theorem un61 : (Try.prog.underlying 61).isSome = true := by kernel_rfl
theorem ni61 : tyNoIf Try.prog 61 = true := by kernel_rfl
theorem kt61 : tyKsT Try.prog 61 = [none] := by kernel_rfl
theorem bo61 : tyBool Try.prog 61 = false := by kernel_rfl
theorem st61 : tyStr Try.prog 61 = false := by kernel_rfl
theorem ze61 : tyZ Try.prog 61 = some [.val .nilFunc] := by kernel_rfl
theorem ag62 : tyAgg Try.prog 62 = some false := by kernel_rfl
theorem sz62 : tySz Try.prog 62 = some 1 := by kernel_rfl
theorem by62 : tyBy Try.prog 62 = some 8 := by kernel_rfl
theorem un62 : (Try.prog.underlying 62).isSome = true := by kernel_rfl
theorem ni62 : tyNoIf Try.prog 62 = true := by kernel_rfl
theorem zo62 : tyZ1 Try.prog 62 = some ((.int .u64 0)) := by kernel_rfl
theorem kt62 : tyKsT Try.prog 62 = [none] := by kernel_rfl
theorem in62 : tyInt Try.prog 62 = some .u64 := by kernel_rfl
theorem bo62 : tyBool Try.prog 62 = false := by kernel_rfl
theorem st62 : tyStr Try.prog 62 = false := by kernel_rfl
theorem ze62 : tyZ Try.prog 62 = some [.val (.int .u64 0)] := by kernel_rfl
theorem nk63 : tyNil Try.prog 63 = some .func := by kernel_rfl
theorem ag63 : tyAgg Try.prog 63 = some false := by kernel_rfl
theorem sz63 : tySz Try.prog 63 = some 1 := by kernel_rfl
theorem by63 : tyBy Try.prog 63 = some 8 := by kernel_rfl
theorem un63 : (Try.prog.underlying 63).isSome = true := by kernel_rfl
theorem ni63 : tyNoIf Try.prog 63 = true := by kernel_rfl
theorem kt63 : tyKsT Try.prog 63 = [none] := by kernel_rfl
theorem bo63 : tyBool Try.prog 63 = false := by kernel_rfl
theorem st63 : tyStr Try.prog 63 = false := by kernel_rfl
theorem ze63 : tyZ Try.prog 63 = some [.val .nilFunc] := by kernel_rfl
theorem nk64 : tyNil Try.prog 64 = some .slice := by kernel_rfl
theorem ag64 : tyAgg Try.prog 64 = some false := by kernel_rfl
theorem sz64 : tySz Try.prog 64 = some 1 := by kernel_rfl
theorem by64 : tyBy Try.prog 64 = some 24 := by kernel_rfl
theorem un64 : (Try.prog.underlying 64).isSome = true := by kernel_rfl
theorem ni64 : tyNoIf Try.prog 64 = true := by kernel_rfl
theorem zo64 : tyZ1 Try.prog 64 = some ((.slice none 0 0)) := by kernel_rfl
theorem ke64 : tyKsE Try.prog 64 = [none, none, some 1] := by kernel_rfl
theorem kt64 : tyKsT Try.prog 64 = [some 3] := by kernel_rfl
theorem el64 : tyEl Try.prog 64 = some 67 := by kernel_rfl
theorem bo64 : tyBool Try.prog 64 = false := by kernel_rfl
theorem st64 : tyStr Try.prog 64 = false := by kernel_rfl
theorem ze64 : tyZ Try.prog 64 = some [.val (.slice none 0 0)] := by kernel_rfl
theorem nk65 : tyNil Try.prog 65 = some .func := by kernel_rfl
theorem ag65 : tyAgg Try.prog 65 = some false := by kernel_rfl
theorem sz65 : tySz Try.prog 65 = some 1 := by kernel_rfl
theorem by65 : tyBy Try.prog 65 = some 8 := by kernel_rfl
theorem un65 : (Try.prog.underlying 65).isSome = true := by kernel_rfl
theorem ni65 : tyNoIf Try.prog 65 = true := by kernel_rfl
theorem kt65 : tyKsT Try.prog 65 = [none] := by kernel_rfl
theorem bo65 : tyBool Try.prog 65 = false := by kernel_rfl
theorem st65 : tyStr Try.prog 65 = false := by kernel_rfl
theorem ze65 : tyZ Try.prog 65 = some [.val .nilFunc] := by kernel_rfl
theorem ag66 : tyAgg Try.prog 66 = some true := by kernel_rfl
theorem sz66 : tySz Try.prog 66 = some 3 := by kernel_rfl
theorem by66 : tyBy Try.prog 66 = some 40 := by kernel_rfl
theorem un66 : (Try.prog.underlying 66).isSome = true := by kernel_rfl
theorem ni66 : tyNoIf Try.prog 66 = true := by kernel_rfl
theorem kt66 : tyKsT Try.prog 66 = [none, none, some 1] := by kernel_rfl
theorem bo66 : tyBool Try.prog 66 = false := by kernel_rfl
theorem st66 : tyStr Try.prog 66 = false := by kernel_rfl
theorem ze66 : tyZ Try.prog 66 = some [.val (.int .i64 0), .val (.int .i64 0), .val (.slice none 0 0)] := by kernel_rfl
theorem fi66 : tyF Try.prog 66 = some [(0, 1), (1, 1), (2, 1)] := by kernel_rfl
theorem fa66_0 : tyFA Try.prog 66 0 = some 0 := by kernel_rfl
theorem ft66_0 : tyFT Try.prog 66 0 = some (0, 3) := by kernel_rfl
theorem fa66_1 : tyFA Try.prog 66 1 = some 1 := by kernel_rfl
theorem ft66_1 : tyFT Try.prog 66 1 = some (1, 3) := by kernel_rfl
theorem fa66_2 : tyFA Try.prog 66 2 = some 2 := by kernel_rfl
theorem ft66_2 : tyFT Try.prog 66 2 = some (2, 22) := by kernel_rfl
theorem ag67 : tyAgg Try.prog 67 = some true := by kernel_rfl
theorem sz67 : tySz Try.prog 67 = some 3 := by kernel_rfl
theorem by67 : tyBy Try.prog 67 = some 40 := by kernel_rfl
theorem un67 : (Try.prog.underlying 67).isSome = true := by kernel_rfl
theorem ni67 : tyNoIf Try.prog 67 = true := by kernel_rfl
theorem kt67 : tyKsT Try.prog 67 = [none, none, some 1] := by kernel_rfl
theorem bo67 : tyBool Try.prog 67 = false := by kernel_rfl
theorem st67 : tyStr Try.prog 67 = false := by kernel_rfl
theorem ze67 : tyZ Try.prog 67 = some [.val (.int .i64 0), .val (.int .i64 0), .val (.slice none 0 0)] := by kernel_rfl
theorem fi67 : tyF Try.prog 67 = some [(0, 1), (1, 1), (2, 1)] := by kernel_rfl
theorem fa67_0 : tyFA Try.prog 67 0 = some 0 := by kernel_rfl
theorem ft67_0 : tyFT Try.prog 67 0 = some (0, 3) := by kernel_rfl
theorem fa67_1 : tyFA Try.prog 67 1 = some 1 := by kernel_rfl
theorem ft67_1 : tyFT Try.prog 67 1 = some (1, 3) := by kernel_rfl
theorem fa67_2 : tyFA Try.prog 67 2 = some 2 := by kernel_rfl
theorem ft67_2 : tyFT Try.prog 67 2 = some (2, 22) := by kernel_rfl
theorem nk69 : tyNil Try.prog 69 = some .func := by kernel_rfl
theorem ag69 : tyAgg Try.prog 69 = some false := by kernel_rfl
theorem sz69 : tySz Try.prog 69 = some 1 := by kernel_rfl
theorem by69 : tyBy Try.prog 69 = some 8 := by kernel_rfl
theorem un69 : (Try.prog.underlying 69).isSome = true := by kernel_rfl
theorem ni69 : tyNoIf Try.prog 69 = true := by kernel_rfl
theorem kt69 : tyKsT Try.prog 69 = [none] := by kernel_rfl
theorem bo69 : tyBool Try.prog 69 = false := by kernel_rfl
theorem st69 : tyStr Try.prog 69 = false := by kernel_rfl
theorem ze69 : tyZ Try.prog 69 = some [.val .nilFunc] := by kernel_rfl
theorem nk70 : tyNil Try.prog 70 = some .func := by kernel_rfl
theorem ag70 : tyAgg Try.prog 70 = some false := by kernel_rfl
theorem sz70 : tySz Try.prog 70 = some 1 := by kernel_rfl
theorem by70 : tyBy Try.prog 70 = some 8 := by kernel_rfl
theorem un70 : (Try.prog.underlying 70).isSome = true := by kernel_rfl
theorem ni70 : tyNoIf Try.prog 70 = true := by kernel_rfl
theorem kt70 : tyKsT Try.prog 70 = [none] := by kernel_rfl
theorem bo70 : tyBool Try.prog 70 = false := by kernel_rfl
theorem st70 : tyStr Try.prog 70 = false := by kernel_rfl
theorem ze70 : tyZ Try.prog 70 = some [.val .nilFunc] := by kernel_rfl
theorem nk71 : tyNil Try.prog 71 = some .func := by kernel_rfl
theorem ag71 : tyAgg Try.prog 71 = some false := by kernel_rfl
theorem sz71 : tySz Try.prog 71 = some 1 := by kernel_rfl
theorem by71 : tyBy Try.prog 71 = some 8 := by kernel_rfl
theorem un71 : (Try.prog.underlying 71).isSome = true := by kernel_rfl
theorem ni71 : tyNoIf Try.prog 71 = true := by kernel_rfl
theorem kt71 : tyKsT Try.prog 71 = [none] := by kernel_rfl
theorem bo71 : tyBool Try.prog 71 = false := by kernel_rfl
theorem st71 : tyStr Try.prog 71 = false := by kernel_rfl
theorem ze71 : tyZ Try.prog 71 = some [.val .nilFunc] := by kernel_rfl
theorem nk72 : tyNil Try.prog 72 = some .func := by kernel_rfl
theorem ag72 : tyAgg Try.prog 72 = some false := by kernel_rfl
theorem sz72 : tySz Try.prog 72 = some 1 := by kernel_rfl
theorem by72 : tyBy Try.prog 72 = some 8 := by kernel_rfl
theorem un72 : (Try.prog.underlying 72).isSome = true := by kernel_rfl
theorem ni72 : tyNoIf Try.prog 72 = true := by kernel_rfl
theorem kt72 : tyKsT Try.prog 72 = [none] := by kernel_rfl
theorem bo72 : tyBool Try.prog 72 = false := by kernel_rfl
theorem st72 : tyStr Try.prog 72 = false := by kernel_rfl
theorem ze72 : tyZ Try.prog 72 = some [.val .nilFunc] := by kernel_rfl
theorem ag73 : tyAgg Try.prog 73 = some false := by kernel_rfl
theorem sz73 : tySz Try.prog 73 = some 1 := by kernel_rfl
theorem by73 : tyBy Try.prog 73 = some 8 := by kernel_rfl
theorem un73 : (Try.prog.underlying 73).isSome = true := by kernel_rfl
theorem ni73 : tyNoIf Try.prog 73 = true := by kernel_rfl
theorem zo73 : tyZ1 Try.prog 73 = some ((.int .u64 0)) := by kernel_rfl
theorem kt73 : tyKsT Try.prog 73 = [none] := by kernel_rfl
theorem in73 : tyInt Try.prog 73 = some .u64 := by kernel_rfl
theorem bo73 : tyBool Try.prog 73 = false := by kernel_rfl
theorem st73 : tyStr Try.prog 73 = false := by kernel_rfl
theorem ze73 : tyZ Try.prog 73 = some [.val (.int .u64 0)] := by kernel_rfl
theorem nk74 : tyNil Try.prog 74 = some .func := by kernel_rfl
theorem ag74 : tyAgg Try.prog 74 = some false := by kernel_rfl
theorem sz74 : tySz Try.prog 74 = some 1 := by kernel_rfl
theorem by74 : tyBy Try.prog 74 = some 8 := by kernel_rfl
theorem un74 : (Try.prog.underlying 74).isSome = true := by kernel_rfl
theorem ni74 : tyNoIf Try.prog 74 = true := by kernel_rfl
theorem kt74 : tyKsT Try.prog 74 = [none] := by kernel_rfl
theorem bo74 : tyBool Try.prog 74 = false := by kernel_rfl
theorem st74 : tyStr Try.prog 74 = false := by kernel_rfl
theorem ze74 : tyZ Try.prog 74 = some [.val .nilFunc] := by kernel_rfl
theorem nk75 : tyNil Try.prog 75 = some .func := by kernel_rfl
theorem ag75 : tyAgg Try.prog 75 = some false := by kernel_rfl
theorem sz75 : tySz Try.prog 75 = some 1 := by kernel_rfl
theorem by75 : tyBy Try.prog 75 = some 8 := by kernel_rfl
theorem un75 : (Try.prog.underlying 75).isSome = true := by kernel_rfl
theorem ni75 : tyNoIf Try.prog 75 = true := by kernel_rfl
theorem kt75 : tyKsT Try.prog 75 = [none] := by kernel_rfl
theorem bo75 : tyBool Try.prog 75 = false := by kernel_rfl
theorem st75 : tyStr Try.prog 75 = false := by kernel_rfl
theorem ze75 : tyZ Try.prog 75 = some [.val .nilFunc] := by kernel_rfl
theorem nk76 : tyNil Try.prog 76 = some .func := by kernel_rfl
theorem ag76 : tyAgg Try.prog 76 = some false := by kernel_rfl
theorem sz76 : tySz Try.prog 76 = some 1 := by kernel_rfl
theorem by76 : tyBy Try.prog 76 = some 8 := by kernel_rfl
theorem un76 : (Try.prog.underlying 76).isSome = true := by kernel_rfl
theorem ni76 : tyNoIf Try.prog 76 = true := by kernel_rfl
theorem kt76 : tyKsT Try.prog 76 = [none] := by kernel_rfl
theorem bo76 : tyBool Try.prog 76 = false := by kernel_rfl
theorem st76 : tyStr Try.prog 76 = false := by kernel_rfl
theorem ze76 : tyZ Try.prog 76 = some [.val .nilFunc] := by kernel_rfl
theorem nk77 : tyNil Try.prog 77 = some .func := by kernel_rfl
theorem ag77 : tyAgg Try.prog 77 = some false := by kernel_rfl
theorem sz77 : tySz Try.prog 77 = some 1 := by kernel_rfl
theorem by77 : tyBy Try.prog 77 = some 8 := by kernel_rfl
theorem un77 : (Try.prog.underlying 77).isSome = true := by kernel_rfl
theorem ni77 : tyNoIf Try.prog 77 = true := by kernel_rfl
theorem kt77 : tyKsT Try.prog 77 = [none] := by kernel_rfl
theorem bo77 : tyBool Try.prog 77 = false := by kernel_rfl
theorem st77 : tyStr Try.prog 77 = false := by kernel_rfl
theorem ze77 : tyZ Try.prog 77 = some [.val .nilFunc] := by kernel_rfl
theorem nk78 : tyNil Try.prog 78 = some .func := by kernel_rfl
theorem ag78 : tyAgg Try.prog 78 = some false := by kernel_rfl
theorem sz78 : tySz Try.prog 78 = some 1 := by kernel_rfl
theorem by78 : tyBy Try.prog 78 = some 8 := by kernel_rfl
theorem un78 : (Try.prog.underlying 78).isSome = true := by kernel_rfl
theorem ni78 : tyNoIf Try.prog 78 = true := by kernel_rfl
theorem kt78 : tyKsT Try.prog 78 = [none] := by kernel_rfl
theorem bo78 : tyBool Try.prog 78 = false := by kernel_rfl
theorem st78 : tyStr Try.prog 78 = false := by kernel_rfl
theorem ze78 : tyZ Try.prog 78 = some [.val .nilFunc] := by kernel_rfl
theorem nk79 : tyNil Try.prog 79 = some .func := by kernel_rfl
theorem ag79 : tyAgg Try.prog 79 = some false := by kernel_rfl
theorem sz79 : tySz Try.prog 79 = some 1 := by kernel_rfl
theorem by79 : tyBy Try.prog 79 = some 8 := by kernel_rfl
theorem un79 : (Try.prog.underlying 79).isSome = true := by kernel_rfl
theorem ni79 : tyNoIf Try.prog 79 = true := by kernel_rfl
theorem kt79 : tyKsT Try.prog 79 = [none] := by kernel_rfl
theorem bo79 : tyBool Try.prog 79 = false := by kernel_rfl
theorem st79 : tyStr Try.prog 79 = false := by kernel_rfl
theorem ze79 : tyZ Try.prog 79 = some [.val .nilFunc] := by kernel_rfl
theorem nk80 : tyNil Try.prog 80 = some .func := by kernel_rfl
theorem ag80 : tyAgg Try.prog 80 = some false := by kernel_rfl
theorem sz80 : tySz Try.prog 80 = some 1 := by kernel_rfl
theorem by80 : tyBy Try.prog 80 = some 8 := by kernel_rfl
theorem un80 : (Try.prog.underlying 80).isSome = true := by kernel_rfl
theorem ni80 : tyNoIf Try.prog 80 = true := by kernel_rfl
theorem kt80 : tyKsT Try.prog 80 = [none] := by kernel_rfl
theorem bo80 : tyBool Try.prog 80 = false := by kernel_rfl
theorem st80 : tyStr Try.prog 80 = false := by kernel_rfl
theorem ze80 : tyZ Try.prog 80 = some [.val .nilFunc] := by kernel_rfl
theorem ag81 : tyAgg Try.prog 81 = some false := by kernel_rfl
theorem sz81 : tySz Try.prog 81 = some 1 := by kernel_rfl
theorem by81 : tyBy Try.prog 81 = some 8 := by kernel_rfl
theorem un81 : (Try.prog.underlying 81).isSome = true := by kernel_rfl
theorem ni81 : tyNoIf Try.prog 81 = true := by kernel_rfl
theorem zo81 : tyZ1 Try.prog 81 = some ((.int .i64 0)) := by kernel_rfl
theorem kt81 : tyKsT Try.prog 81 = [none] := by kernel_rfl
theorem in81 : tyInt Try.prog 81 = some .i64 := by kernel_rfl
theorem bo81 : tyBool Try.prog 81 = false := by kernel_rfl
theorem st81 : tyStr Try.prog 81 = false := by kernel_rfl
theorem ze81 : tyZ Try.prog 81 = some [.val (.int .i64 0)] := by kernel_rfl
theorem nk83 : tyNil Try.prog 83 = some .func := by kernel_rfl
theorem ag83 : tyAgg Try.prog 83 = some false := by kernel_rfl
theorem sz83 : tySz Try.prog 83 = some 1 := by kernel_rfl
theorem by83 : tyBy Try.prog 83 = some 8 := by kernel_rfl
theorem un83 : (Try.prog.underlying 83).isSome = true := by kernel_rfl
theorem ni83 : tyNoIf Try.prog 83 = true := by kernel_rfl
theorem kt83 : tyKsT Try.prog 83 = [none] := by kernel_rfl
theorem bo83 : tyBool Try.prog 83 = false := by kernel_rfl
theorem st83 : tyStr Try.prog 83 = false := by kernel_rfl
theorem ze83 : tyZ Try.prog 83 = some [.val .nilFunc] := by kernel_rfl
theorem nk84 : tyNil Try.prog 84 = some .func := by kernel_rfl
theorem ag84 : tyAgg Try.prog 84 = some false := by kernel_rfl
theorem sz84 : tySz Try.prog 84 = some 1 := by kernel_rfl
theorem by84 : tyBy Try.prog 84 = some 8 := by kernel_rfl
theorem un84 : (Try.prog.underlying 84).isSome = true := by kernel_rfl
theorem ni84 : tyNoIf Try.prog 84 = true := by kernel_rfl
theorem kt84 : tyKsT Try.prog 84 = [none] := by kernel_rfl
theorem bo84 : tyBool Try.prog 84 = false := by kernel_rfl
theorem st84 : tyStr Try.prog 84 = false := by kernel_rfl
theorem ze84 : tyZ Try.prog 84 = some [.val .nilFunc] := by kernel_rfl
theorem nk85 : tyNil Try.prog 85 = some .func := by kernel_rfl
theorem ag85 : tyAgg Try.prog 85 = some false := by kernel_rfl
theorem sz85 : tySz Try.prog 85 = some 1 := by kernel_rfl
theorem by85 : tyBy Try.prog 85 = some 8 := by kernel_rfl
theorem un85 : (Try.prog.underlying 85).isSome = true := by kernel_rfl
theorem ni85 : tyNoIf Try.prog 85 = true := by kernel_rfl
theorem kt85 : tyKsT Try.prog 85 = [none] := by kernel_rfl
theorem bo85 : tyBool Try.prog 85 = false := by kernel_rfl
theorem st85 : tyStr Try.prog 85 = false := by kernel_rfl
theorem ze85 : tyZ Try.prog 85 = some [.val .nilFunc] := by kernel_rfl
theorem nk86 : tyNil Try.prog 86 = some .func := by kernel_rfl
theorem ag86 : tyAgg Try.prog 86 = some false := by kernel_rfl
theorem sz86 : tySz Try.prog 86 = some 1 := by kernel_rfl
theorem by86 : tyBy Try.prog 86 = some 8 := by kernel_rfl
theorem un86 : (Try.prog.underlying 86).isSome = true := by kernel_rfl
theorem ni86 : tyNoIf Try.prog 86 = true := by kernel_rfl
theorem kt86 : tyKsT Try.prog 86 = [none] := by kernel_rfl
theorem bo86 : tyBool Try.prog 86 = false := by kernel_rfl
theorem st86 : tyStr Try.prog 86 = false := by kernel_rfl
theorem ze86 : tyZ Try.prog 86 = some [.val .nilFunc] := by kernel_rfl
theorem ag87 : tyAgg Try.prog 87 = some false := by kernel_rfl
theorem sz87 : tySz Try.prog 87 = some 1 := by kernel_rfl
theorem by87 : tyBy Try.prog 87 = some 4 := by kernel_rfl
theorem un87 : (Try.prog.underlying 87).isSome = true := by kernel_rfl
theorem ni87 : tyNoIf Try.prog 87 = true := by kernel_rfl
theorem zo87 : tyZ1 Try.prog 87 = some ((.int .u32 0)) := by kernel_rfl
theorem kt87 : tyKsT Try.prog 87 = [none] := by kernel_rfl
theorem in87 : tyInt Try.prog 87 = some .u32 := by kernel_rfl
theorem bo87 : tyBool Try.prog 87 = false := by kernel_rfl
theorem st87 : tyStr Try.prog 87 = false := by kernel_rfl
theorem ze87 : tyZ Try.prog 87 = some [.val (.int .u32 0)] := by kernel_rfl
theorem nk88 : tyNil Try.prog 88 = some .func := by kernel_rfl
theorem ag88 : tyAgg Try.prog 88 = some false := by kernel_rfl
theorem sz88 : tySz Try.prog 88 = some 1 := by kernel_rfl
theorem by88 : tyBy Try.prog 88 = some 8 := by kernel_rfl
theorem un88 : (Try.prog.underlying 88).isSome = true := by kernel_rfl
theorem ni88 : tyNoIf Try.prog 88 = true := by kernel_rfl
theorem kt88 : tyKsT Try.prog 88 = [none] := by kernel_rfl
theorem bo88 : tyBool Try.prog 88 = false := by kernel_rfl
theorem st88 : tyStr Try.prog 88 = false := by kernel_rfl
theorem ze88 : tyZ Try.prog 88 = some [.val .nilFunc] := by kernel_rfl
theorem nk89 : tyNil Try.prog 89 = some .func := by kernel_rfl
theorem ag89 : tyAgg Try.prog 89 = some false := by kernel_rfl
theorem sz89 : tySz Try.prog 89 = some 1 := by kernel_rfl
theorem by89 : tyBy Try.prog 89 = some 8 := by kernel_rfl
theorem un89 : (Try.prog.underlying 89).isSome = true := by kernel_rfl
theorem ni89 : tyNoIf Try.prog 89 = true := by kernel_rfl
theorem kt89 : tyKsT Try.prog 89 = [none] := by kernel_rfl
theorem bo89 : tyBool Try.prog 89 = false := by kernel_rfl
theorem st89 : tyStr Try.prog 89 = false := by kernel_rfl
theorem ze89 : tyZ Try.prog 89 = some [.val .nilFunc] := by kernel_rfl
theorem nk90 : tyNil Try.prog 90 = some .func := by kernel_rfl
theorem ag90 : tyAgg Try.prog 90 = some false := by kernel_rfl
theorem sz90 : tySz Try.prog 90 = some 1 := by kernel_rfl
theorem by90 : tyBy Try.prog 90 = some 8 := by kernel_rfl
theorem un90 : (Try.prog.underlying 90).isSome = true := by kernel_rfl
theorem ni90 : tyNoIf Try.prog 90 = true := by kernel_rfl
theorem kt90 : tyKsT Try.prog 90 = [none] := by kernel_rfl
theorem bo90 : tyBool Try.prog 90 = false := by kernel_rfl
theorem st90 : tyStr Try.prog 90 = false := by kernel_rfl
theorem ze90 : tyZ Try.prog 90 = some [.val .nilFunc] := by kernel_rfl
theorem nk91 : tyNil Try.prog 91 = some .func := by kernel_rfl
theorem ag91 : tyAgg Try.prog 91 = some false := by kernel_rfl
theorem sz91 : tySz Try.prog 91 = some 1 := by kernel_rfl
theorem by91 : tyBy Try.prog 91 = some 8 := by kernel_rfl
theorem un91 : (Try.prog.underlying 91).isSome = true := by kernel_rfl
theorem ni91 : tyNoIf Try.prog 91 = true := by kernel_rfl
theorem kt91 : tyKsT Try.prog 91 = [none] := by kernel_rfl
theorem bo91 : tyBool Try.prog 91 = false := by kernel_rfl
theorem st91 : tyStr Try.prog 91 = false := by kernel_rfl
theorem ze91 : tyZ Try.prog 91 = some [.val .nilFunc] := by kernel_rfl
theorem nk92 : tyNil Try.prog 92 = some .func := by kernel_rfl
theorem ag92 : tyAgg Try.prog 92 = some false := by kernel_rfl
theorem sz92 : tySz Try.prog 92 = some 1 := by kernel_rfl
theorem by92 : tyBy Try.prog 92 = some 8 := by kernel_rfl
theorem un92 : (Try.prog.underlying 92).isSome = true := by kernel_rfl
theorem ni92 : tyNoIf Try.prog 92 = true := by kernel_rfl
theorem kt92 : tyKsT Try.prog 92 = [none] := by kernel_rfl
theorem bo92 : tyBool Try.prog 92 = false := by kernel_rfl
theorem st92 : tyStr Try.prog 92 = false := by kernel_rfl
theorem ze92 : tyZ Try.prog 92 = some [.val .nilFunc] := by kernel_rfl
theorem nk93 : tyNil Try.prog 93 = some .func := by kernel_rfl
theorem ag93 : tyAgg Try.prog 93 = some false := by kernel_rfl
theorem sz93 : tySz Try.prog 93 = some 1 := by kernel_rfl
theorem by93 : tyBy Try.prog 93 = some 8 := by kernel_rfl
theorem un93 : (Try.prog.underlying 93).isSome = true := by kernel_rfl
theorem ni93 : tyNoIf Try.prog 93 = true := by kernel_rfl
theorem kt93 : tyKsT Try.prog 93 = [none] := by kernel_rfl
theorem bo93 : tyBool Try.prog 93 = false := by kernel_rfl
theorem st93 : tyStr Try.prog 93 = false := by kernel_rfl
theorem ze93 : tyZ Try.prog 93 = some [.val .nilFunc] := by kernel_rfl
theorem nk94 : tyNil Try.prog 94 = some .func := by kernel_rfl
theorem ag94 : tyAgg Try.prog 94 = some false := by kernel_rfl
theorem sz94 : tySz Try.prog 94 = some 1 := by kernel_rfl
theorem by94 : tyBy Try.prog 94 = some 8 := by kernel_rfl
theorem un94 : (Try.prog.underlying 94).isSome = true := by kernel_rfl
theorem ni94 : tyNoIf Try.prog 94 = true := by kernel_rfl
theorem kt94 : tyKsT Try.prog 94 = [none] := by kernel_rfl
theorem bo94 : tyBool Try.prog 94 = false := by kernel_rfl
theorem st94 : tyStr Try.prog 94 = false := by kernel_rfl
theorem ze94 : tyZ Try.prog 94 = some [.val .nilFunc] := by kernel_rfl
theorem ag95 : tyAgg Try.prog 95 = some false := by kernel_rfl
theorem sz95 : tySz Try.prog 95 = some 1 := by kernel_rfl
theorem by95 : tyBy Try.prog 95 = some 8 := by kernel_rfl
theorem un95 : (Try.prog.underlying 95).isSome = true := by kernel_rfl
theorem ni95 : tyNoIf Try.prog 95 = true := by kernel_rfl
theorem zo95 : tyZ1 Try.prog 95 = some ((.int .u64 0)) := by kernel_rfl
theorem kt95 : tyKsT Try.prog 95 = [none] := by kernel_rfl
theorem in95 : tyInt Try.prog 95 = some .u64 := by kernel_rfl
theorem bo95 : tyBool Try.prog 95 = false := by kernel_rfl
theorem st95 : tyStr Try.prog 95 = false := by kernel_rfl
theorem ze95 : tyZ Try.prog 95 = some [.val (.int .u64 0)] := by kernel_rfl
theorem nk96 : tyNil Try.prog 96 = some .func := by kernel_rfl
theorem ag96 : tyAgg Try.prog 96 = some false := by kernel_rfl
theorem sz96 : tySz Try.prog 96 = some 1 := by kernel_rfl
theorem by96 : tyBy Try.prog 96 = some 8 := by kernel_rfl
theorem un96 : (Try.prog.underlying 96).isSome = true := by kernel_rfl
theorem ni96 : tyNoIf Try.prog 96 = true := by kernel_rfl
theorem kt96 : tyKsT Try.prog 96 = [none] := by kernel_rfl
theorem bo96 : tyBool Try.prog 96 = false := by kernel_rfl
theorem st96 : tyStr Try.prog 96 = false := by kernel_rfl
theorem ze96 : tyZ Try.prog 96 = some [.val .nilFunc] := by kernel_rfl
theorem nk97 : tyNil Try.prog 97 = some .func := by kernel_rfl
theorem ag97 : tyAgg Try.prog 97 = some false := by kernel_rfl
theorem sz97 : tySz Try.prog 97 = some 1 := by kernel_rfl
theorem by97 : tyBy Try.prog 97 = some 8 := by kernel_rfl
theorem un97 : (Try.prog.underlying 97).isSome = true := by kernel_rfl
theorem ni97 : tyNoIf Try.prog 97 = true := by kernel_rfl
theorem kt97 : tyKsT Try.prog 97 = [none] := by kernel_rfl
theorem bo97 : tyBool Try.prog 97 = false := by kernel_rfl
theorem st97 : tyStr Try.prog 97 = false := by kernel_rfl
theorem ze97 : tyZ Try.prog 97 = some [.val .nilFunc] := by kernel_rfl
theorem nk98 : tyNil Try.prog 98 = some .func := by kernel_rfl
theorem ag98 : tyAgg Try.prog 98 = some false := by kernel_rfl
theorem sz98 : tySz Try.prog 98 = some 1 := by kernel_rfl
theorem by98 : tyBy Try.prog 98 = some 8 := by kernel_rfl
theorem un98 : (Try.prog.underlying 98).isSome = true := by kernel_rfl
theorem ni98 : tyNoIf Try.prog 98 = true := by kernel_rfl
theorem kt98 : tyKsT Try.prog 98 = [none] := by kernel_rfl
theorem bo98 : tyBool Try.prog 98 = false := by kernel_rfl
theorem st98 : tyStr Try.prog 98 = false := by kernel_rfl
theorem ze98 : tyZ Try.prog 98 = some [.val .nilFunc] := by kernel_rfl
theorem nk99 : tyNil Try.prog 99 = some .pointer := by kernel_rfl
theorem ag99 : tyAgg Try.prog 99 = some false := by kernel_rfl
theorem sz99 : tySz Try.prog 99 = some 1 := by kernel_rfl
theorem by99 : tyBy Try.prog 99 = some 8 := by kernel_rfl
theorem un99 : (Try.prog.underlying 99).isSome = true := by kernel_rfl
theorem ni99 : tyNoIf Try.prog 99 = true := by kernel_rfl
theorem zo99 : tyZ1 Try.prog 99 = some ((.pointer none)) := by kernel_rfl
theorem kt99 : tyKsT Try.prog 99 = [none] := by kernel_rfl
theorem bo99 : tyBool Try.prog 99 = false := by kernel_rfl
theorem st99 : tyStr Try.prog 99 = false := by kernel_rfl
theorem ze99 : tyZ Try.prog 99 = some [.val (.pointer none)] := by kernel_rfl
theorem nk100 : tyNil Try.prog 100 = some .func := by kernel_rfl
theorem ag100 : tyAgg Try.prog 100 = some false := by kernel_rfl
theorem sz100 : tySz Try.prog 100 = some 1 := by kernel_rfl
theorem by100 : tyBy Try.prog 100 = some 8 := by kernel_rfl
theorem un100 : (Try.prog.underlying 100).isSome = true := by kernel_rfl
theorem ni100 : tyNoIf Try.prog 100 = true := by kernel_rfl
theorem kt100 : tyKsT Try.prog 100 = [none] := by kernel_rfl
theorem bo100 : tyBool Try.prog 100 = false := by kernel_rfl
theorem st100 : tyStr Try.prog 100 = false := by kernel_rfl
theorem ze100 : tyZ Try.prog 100 = some [.val .nilFunc] := by kernel_rfl
theorem nk101 : tyNil Try.prog 101 = some .func := by kernel_rfl
theorem ag101 : tyAgg Try.prog 101 = some false := by kernel_rfl
theorem sz101 : tySz Try.prog 101 = some 1 := by kernel_rfl
theorem by101 : tyBy Try.prog 101 = some 8 := by kernel_rfl
theorem un101 : (Try.prog.underlying 101).isSome = true := by kernel_rfl
theorem ni101 : tyNoIf Try.prog 101 = true := by kernel_rfl
theorem kt101 : tyKsT Try.prog 101 = [none] := by kernel_rfl
theorem bo101 : tyBool Try.prog 101 = false := by kernel_rfl
theorem st101 : tyStr Try.prog 101 = false := by kernel_rfl
theorem ze101 : tyZ Try.prog 101 = some [.val .nilFunc] := by kernel_rfl
theorem nk102 : tyNil Try.prog 102 = some .func := by kernel_rfl
theorem ag102 : tyAgg Try.prog 102 = some false := by kernel_rfl
theorem sz102 : tySz Try.prog 102 = some 1 := by kernel_rfl
theorem by102 : tyBy Try.prog 102 = some 8 := by kernel_rfl
theorem un102 : (Try.prog.underlying 102).isSome = true := by kernel_rfl
theorem ni102 : tyNoIf Try.prog 102 = true := by kernel_rfl
theorem kt102 : tyKsT Try.prog 102 = [none] := by kernel_rfl
theorem bo102 : tyBool Try.prog 102 = false := by kernel_rfl
theorem st102 : tyStr Try.prog 102 = false := by kernel_rfl
theorem ze102 : tyZ Try.prog 102 = some [.val .nilFunc] := by kernel_rfl
theorem nk103 : tyNil Try.prog 103 = some .pointer := by kernel_rfl
theorem ag103 : tyAgg Try.prog 103 = some false := by kernel_rfl
theorem sz103 : tySz Try.prog 103 = some 1 := by kernel_rfl
theorem by103 : tyBy Try.prog 103 = some 8 := by kernel_rfl
theorem un103 : (Try.prog.underlying 103).isSome = true := by kernel_rfl
theorem ni103 : tyNoIf Try.prog 103 = true := by kernel_rfl
theorem zo103 : tyZ1 Try.prog 103 = some ((.pointer none)) := by kernel_rfl
theorem kt103 : tyKsT Try.prog 103 = [none] := by kernel_rfl
theorem bo103 : tyBool Try.prog 103 = false := by kernel_rfl
theorem st103 : tyStr Try.prog 103 = false := by kernel_rfl
theorem ze103 : tyZ Try.prog 103 = some [.val (.pointer none)] := by kernel_rfl
theorem nk105 : tyNil Try.prog 105 = some .func := by kernel_rfl
theorem ag105 : tyAgg Try.prog 105 = some false := by kernel_rfl
theorem sz105 : tySz Try.prog 105 = some 1 := by kernel_rfl
theorem by105 : tyBy Try.prog 105 = some 8 := by kernel_rfl
theorem un105 : (Try.prog.underlying 105).isSome = true := by kernel_rfl
theorem ni105 : tyNoIf Try.prog 105 = true := by kernel_rfl
theorem kt105 : tyKsT Try.prog 105 = [none] := by kernel_rfl
theorem bo105 : tyBool Try.prog 105 = false := by kernel_rfl
theorem st105 : tyStr Try.prog 105 = false := by kernel_rfl
theorem ze105 : tyZ Try.prog 105 = some [.val .nilFunc] := by kernel_rfl
theorem nk106 : tyNil Try.prog 106 = some .func := by kernel_rfl
theorem ag106 : tyAgg Try.prog 106 = some false := by kernel_rfl
theorem sz106 : tySz Try.prog 106 = some 1 := by kernel_rfl
theorem by106 : tyBy Try.prog 106 = some 8 := by kernel_rfl
theorem un106 : (Try.prog.underlying 106).isSome = true := by kernel_rfl
theorem ni106 : tyNoIf Try.prog 106 = true := by kernel_rfl
theorem kt106 : tyKsT Try.prog 106 = [none] := by kernel_rfl
theorem bo106 : tyBool Try.prog 106 = false := by kernel_rfl
theorem st106 : tyStr Try.prog 106 = false := by kernel_rfl
theorem ze106 : tyZ Try.prog 106 = some [.val .nilFunc] := by kernel_rfl
theorem nk107 : tyNil Try.prog 107 = some .func := by kernel_rfl
theorem ag107 : tyAgg Try.prog 107 = some false := by kernel_rfl
theorem sz107 : tySz Try.prog 107 = some 1 := by kernel_rfl
theorem by107 : tyBy Try.prog 107 = some 8 := by kernel_rfl
theorem un107 : (Try.prog.underlying 107).isSome = true := by kernel_rfl
theorem ni107 : tyNoIf Try.prog 107 = true := by kernel_rfl
theorem kt107 : tyKsT Try.prog 107 = [none] := by kernel_rfl
theorem bo107 : tyBool Try.prog 107 = false := by kernel_rfl
theorem st107 : tyStr Try.prog 107 = false := by kernel_rfl
theorem ze107 : tyZ Try.prog 107 = some [.val .nilFunc] := by kernel_rfl
theorem ag108 : tyAgg Try.prog 108 = some true := by kernel_rfl
theorem sz108 : tySz Try.prog 108 = some 4 := by kernel_rfl
theorem by108 : tyBy Try.prog 108 = some 40 := by kernel_rfl
theorem un108 : (Try.prog.underlying 108).isSome = true := by kernel_rfl
theorem ni108 : tyNoIf Try.prog 108 = true := by kernel_rfl
theorem kt108 : tyKsT Try.prog 108 = [none, none, none, none] := by kernel_rfl
theorem bo108 : tyBool Try.prog 108 = false := by kernel_rfl
theorem st108 : tyStr Try.prog 108 = false := by kernel_rfl
theorem ze108 : tyZ Try.prog 108 = some [.val (.pointer none), .val (.pointer none), .val (.pointer none), .val (.string ⟨#[]⟩)] := by kernel_rfl
theorem fi108 : tyF Try.prog 108 = some [(0, 1), (1, 1), (2, 1), (3, 1)] := by kernel_rfl
theorem fa108_0 : tyFA Try.prog 108 0 = some 0 := by kernel_rfl
theorem ft108_0 : tyFT Try.prog 108 0 = some (0, 17) := by kernel_rfl
theorem fa108_1 : tyFA Try.prog 108 1 = some 1 := by kernel_rfl
theorem ft108_1 : tyFT Try.prog 108 1 = some (1, 17) := by kernel_rfl
theorem fa108_2 : tyFA Try.prog 108 2 = some 2 := by kernel_rfl
theorem ft108_2 : tyFT Try.prog 108 2 = some (2, 17) := by kernel_rfl
theorem fa108_3 : tyFA Try.prog 108 3 = some 3 := by kernel_rfl
theorem ft108_3 : tyFT Try.prog 108 3 = some (3, 9) := by kernel_rfl
theorem ag109 : tyAgg Try.prog 109 = some true := by kernel_rfl
theorem sz109 : tySz Try.prog 109 = some 4 := by kernel_rfl
theorem by109 : tyBy Try.prog 109 = some 40 := by kernel_rfl
theorem un109 : (Try.prog.underlying 109).isSome = true := by kernel_rfl
theorem ni109 : tyNoIf Try.prog 109 = true := by kernel_rfl
theorem kt109 : tyKsT Try.prog 109 = [none, none, none, none] := by kernel_rfl
theorem bo109 : tyBool Try.prog 109 = false := by kernel_rfl
theorem st109 : tyStr Try.prog 109 = false := by kernel_rfl
theorem ze109 : tyZ Try.prog 109 = some [.val (.pointer none), .val (.pointer none), .val (.pointer none), .val (.string ⟨#[]⟩)] := by kernel_rfl
theorem fi109 : tyF Try.prog 109 = some [(0, 1), (1, 1), (2, 1), (3, 1)] := by kernel_rfl
theorem fa109_0 : tyFA Try.prog 109 0 = some 0 := by kernel_rfl
theorem ft109_0 : tyFT Try.prog 109 0 = some (0, 17) := by kernel_rfl
theorem fa109_1 : tyFA Try.prog 109 1 = some 1 := by kernel_rfl
theorem ft109_1 : tyFT Try.prog 109 1 = some (1, 17) := by kernel_rfl
theorem fa109_2 : tyFA Try.prog 109 2 = some 2 := by kernel_rfl
theorem ft109_2 : tyFT Try.prog 109 2 = some (2, 17) := by kernel_rfl
theorem fa109_3 : tyFA Try.prog 109 3 = some 3 := by kernel_rfl
theorem ft109_3 : tyFT Try.prog 109 3 = some (3, 9) := by kernel_rfl
theorem ag111 : tyAgg Try.prog 111 = some true := by kernel_rfl
theorem sz111 : tySz Try.prog 111 = some 0 := by kernel_rfl
theorem by111 : tyBy Try.prog 111 = some 0 := by kernel_rfl
theorem un111 : (Try.prog.underlying 111).isSome = true := by kernel_rfl
theorem ni111 : tyNoIf Try.prog 111 = true := by kernel_rfl
theorem kt111 : tyKsT Try.prog 111 = [] := by kernel_rfl
theorem bo111 : tyBool Try.prog 111 = false := by kernel_rfl
theorem st111 : tyStr Try.prog 111 = false := by kernel_rfl
theorem ze111 : tyZ Try.prog 111 = some [] := by kernel_rfl
theorem fi111 : tyF Try.prog 111 = some [(0, 0)] := by kernel_rfl
theorem ft111_0 : tyFT Try.prog 111 0 = some (0, 110) := by kernel_rfl
theorem ag112 : tyAgg Try.prog 112 = some true := by kernel_rfl
theorem sz112 : tySz Try.prog 112 = some 0 := by kernel_rfl
theorem by112 : tyBy Try.prog 112 = some 0 := by kernel_rfl
theorem un112 : (Try.prog.underlying 112).isSome = true := by kernel_rfl
theorem ni112 : tyNoIf Try.prog 112 = true := by kernel_rfl
theorem kt112 : tyKsT Try.prog 112 = [] := by kernel_rfl
theorem bo112 : tyBool Try.prog 112 = false := by kernel_rfl
theorem st112 : tyStr Try.prog 112 = false := by kernel_rfl
theorem ze112 : tyZ Try.prog 112 = some [] := by kernel_rfl
theorem fi112 : tyF Try.prog 112 = some [(0, 0)] := by kernel_rfl
theorem ft112_0 : tyFT Try.prog 112 0 = some (0, 110) := by kernel_rfl
theorem ag113 : tyAgg Try.prog 113 = some false := by kernel_rfl
theorem sz113 : tySz Try.prog 113 = some 1 := by kernel_rfl
theorem by113 : tyBy Try.prog 113 = some 1 := by kernel_rfl
theorem un113 : (Try.prog.underlying 113).isSome = true := by kernel_rfl
theorem ni113 : tyNoIf Try.prog 113 = true := by kernel_rfl
theorem zo113 : tyZ1 Try.prog 113 = some ((.int .u8 0)) := by kernel_rfl
theorem kt113 : tyKsT Try.prog 113 = [none] := by kernel_rfl
theorem in113 : tyInt Try.prog 113 = some .u8 := by kernel_rfl
theorem bo113 : tyBool Try.prog 113 = false := by kernel_rfl
theorem st113 : tyStr Try.prog 113 = false := by kernel_rfl
theorem ze113 : tyZ Try.prog 113 = some [.val (.int .u8 0)] := by kernel_rfl
theorem ag114 : tyAgg Try.prog 114 = some false := by kernel_rfl
theorem sz114 : tySz Try.prog 114 = some 1 := by kernel_rfl
theorem by114 : tyBy Try.prog 114 = some 1 := by kernel_rfl
theorem un114 : (Try.prog.underlying 114).isSome = true := by kernel_rfl
theorem ni114 : tyNoIf Try.prog 114 = true := by kernel_rfl
theorem zo114 : tyZ1 Try.prog 114 = some ((.int .u8 0)) := by kernel_rfl
theorem kt114 : tyKsT Try.prog 114 = [none] := by kernel_rfl
theorem in114 : tyInt Try.prog 114 = some .u8 := by kernel_rfl
theorem bo114 : tyBool Try.prog 114 = false := by kernel_rfl
theorem st114 : tyStr Try.prog 114 = false := by kernel_rfl
theorem ze114 : tyZ Try.prog 114 = some [.val (.int .u8 0)] := by kernel_rfl
theorem nk115 : tyNil Try.prog 115 = some .func := by kernel_rfl
theorem ag115 : tyAgg Try.prog 115 = some false := by kernel_rfl
theorem sz115 : tySz Try.prog 115 = some 1 := by kernel_rfl
theorem by115 : tyBy Try.prog 115 = some 8 := by kernel_rfl
theorem un115 : (Try.prog.underlying 115).isSome = true := by kernel_rfl
theorem ni115 : tyNoIf Try.prog 115 = true := by kernel_rfl
theorem kt115 : tyKsT Try.prog 115 = [none] := by kernel_rfl
theorem bo115 : tyBool Try.prog 115 = false := by kernel_rfl
theorem st115 : tyStr Try.prog 115 = false := by kernel_rfl
theorem ze115 : tyZ Try.prog 115 = some [.val .nilFunc] := by kernel_rfl
theorem nk116 : tyNil Try.prog 116 = some .pointer := by kernel_rfl
theorem ag116 : tyAgg Try.prog 116 = some false := by kernel_rfl
theorem sz116 : tySz Try.prog 116 = some 1 := by kernel_rfl
theorem by116 : tyBy Try.prog 116 = some 8 := by kernel_rfl
theorem un116 : (Try.prog.underlying 116).isSome = true := by kernel_rfl
theorem ni116 : tyNoIf Try.prog 116 = true := by kernel_rfl
theorem zo116 : tyZ1 Try.prog 116 = some ((.pointer none)) := by kernel_rfl
theorem kt116 : tyKsT Try.prog 116 = [none] := by kernel_rfl
theorem bo116 : tyBool Try.prog 116 = false := by kernel_rfl
theorem st116 : tyStr Try.prog 116 = false := by kernel_rfl
theorem ze116 : tyZ Try.prog 116 = some [.val (.pointer none)] := by kernel_rfl
theorem ag117 : tyAgg Try.prog 117 = some false := by kernel_rfl
theorem sz117 : tySz Try.prog 117 = some 1 := by kernel_rfl
theorem by117 : tyBy Try.prog 117 = some 4 := by kernel_rfl
theorem un117 : (Try.prog.underlying 117).isSome = true := by kernel_rfl
theorem ni117 : tyNoIf Try.prog 117 = true := by kernel_rfl
theorem zo117 : tyZ1 Try.prog 117 = some ((.int .i32 0)) := by kernel_rfl
theorem kt117 : tyKsT Try.prog 117 = [none] := by kernel_rfl
theorem in117 : tyInt Try.prog 117 = some .i32 := by kernel_rfl
theorem bo117 : tyBool Try.prog 117 = false := by kernel_rfl
theorem st117 : tyStr Try.prog 117 = false := by kernel_rfl
theorem ze117 : tyZ Try.prog 117 = some [.val (.int .i32 0)] := by kernel_rfl
theorem ag118 : tyAgg Try.prog 118 = some false := by kernel_rfl
theorem sz118 : tySz Try.prog 118 = some 1 := by kernel_rfl
theorem by118 : tyBy Try.prog 118 = some 4 := by kernel_rfl
theorem un118 : (Try.prog.underlying 118).isSome = true := by kernel_rfl
theorem ni118 : tyNoIf Try.prog 118 = true := by kernel_rfl
theorem zo118 : tyZ1 Try.prog 118 = some ((.int .i32 0)) := by kernel_rfl
theorem kt118 : tyKsT Try.prog 118 = [none] := by kernel_rfl
theorem in118 : tyInt Try.prog 118 = some .i32 := by kernel_rfl
theorem bo118 : tyBool Try.prog 118 = false := by kernel_rfl
theorem st118 : tyStr Try.prog 118 = false := by kernel_rfl
theorem ze118 : tyZ Try.prog 118 = some [.val (.int .i32 0)] := by kernel_rfl
theorem ag119 : tyAgg Try.prog 119 = some true := by kernel_rfl
theorem sz119 : tySz Try.prog 119 = some 11 := by kernel_rfl
theorem by119 : tyBy Try.prog 119 = some 48 := by kernel_rfl
theorem un119 : (Try.prog.underlying 119).isSome = true := by kernel_rfl
theorem ni119 : tyNoIf Try.prog 119 = true := by kernel_rfl
theorem kt119 : tyKsT Try.prog 119 = [none, none, none, none, none, none, none, none, none, none, none] := by kernel_rfl
theorem bo119 : tyBool Try.prog 119 = false := by kernel_rfl
theorem st119 : tyStr Try.prog 119 = false := by kernel_rfl
theorem ze119 : tyZ Try.prog 119 = some [.val (.int .u64 0), .val (.int .u64 0), .val (.int .u32 0), .val (.int .u8 0), .val (.int .u8 0), .val (.int .u8 0), .val (.int .u8 0), .val .nilFunc, .val (.pointer none), .val (.int .i32 0), .val (.int .i32 0)] := by kernel_rfl
theorem fi119 : tyF Try.prog 119 = some [(0, 1), (1, 1), (2, 1), (3, 1), (4, 1), (5, 1), (6, 1), (7, 1), (8, 1), (9, 1), (10, 1)] := by kernel_rfl
theorem fa119_0 : tyFA Try.prog 119 0 = some 0 := by kernel_rfl
theorem ft119_0 : tyFT Try.prog 119 0 = some (0, 12) := by kernel_rfl
theorem fa119_1 : tyFA Try.prog 119 1 = some 1 := by kernel_rfl
theorem ft119_1 : tyFT Try.prog 119 1 = some (1, 12) := by kernel_rfl
theorem fa119_2 : tyFA Try.prog 119 2 = some 2 := by kernel_rfl
theorem ft119_2 : tyFT Try.prog 119 2 = some (2, 87) := by kernel_rfl
theorem fa119_3 : tyFA Try.prog 119 3 = some 3 := by kernel_rfl
theorem ft119_3 : tyFT Try.prog 119 3 = some (3, 113) := by kernel_rfl
theorem fa119_4 : tyFA Try.prog 119 4 = some 4 := by kernel_rfl
theorem ft119_4 : tyFT Try.prog 119 4 = some (4, 5) := by kernel_rfl
theorem fa119_5 : tyFA Try.prog 119 5 = some 5 := by kernel_rfl
theorem ft119_5 : tyFT Try.prog 119 5 = some (5, 5) := by kernel_rfl
theorem fa119_6 : tyFA Try.prog 119 6 = some 6 := by kernel_rfl
theorem ft119_6 : tyFT Try.prog 119 6 = some (6, 114) := by kernel_rfl
theorem fa119_7 : tyFA Try.prog 119 7 = some 7 := by kernel_rfl
theorem ft119_7 : tyFT Try.prog 119 7 = some (7, 115) := by kernel_rfl
theorem fa119_8 : tyFA Try.prog 119 8 = some 8 := by kernel_rfl
theorem ft119_8 : tyFT Try.prog 119 8 = some (8, 116) := by kernel_rfl
theorem fa119_9 : tyFA Try.prog 119 9 = some 9 := by kernel_rfl
theorem ft119_9 : tyFT Try.prog 119 9 = some (9, 117) := by kernel_rfl
theorem fa119_10 : tyFA Try.prog 119 10 = some 10 := by kernel_rfl
theorem ft119_10 : tyFT Try.prog 119 10 = some (10, 118) := by kernel_rfl
theorem ag120 : tyAgg Try.prog 120 = some true := by kernel_rfl
theorem sz120 : tySz Try.prog 120 = some 11 := by kernel_rfl
theorem by120 : tyBy Try.prog 120 = some 48 := by kernel_rfl
theorem un120 : (Try.prog.underlying 120).isSome = true := by kernel_rfl
theorem ni120 : tyNoIf Try.prog 120 = true := by kernel_rfl
theorem kt120 : tyKsT Try.prog 120 = [none, none, none, none, none, none, none, none, none, none, none] := by kernel_rfl
theorem bo120 : tyBool Try.prog 120 = false := by kernel_rfl
theorem st120 : tyStr Try.prog 120 = false := by kernel_rfl
theorem ze120 : tyZ Try.prog 120 = some [.val (.int .u64 0), .val (.int .u64 0), .val (.int .u32 0), .val (.int .u8 0), .val (.int .u8 0), .val (.int .u8 0), .val (.int .u8 0), .val .nilFunc, .val (.pointer none), .val (.int .i32 0), .val (.int .i32 0)] := by kernel_rfl
theorem fi120 : tyF Try.prog 120 = some [(0, 1), (1, 1), (2, 1), (3, 1), (4, 1), (5, 1), (6, 1), (7, 1), (8, 1), (9, 1), (10, 1)] := by kernel_rfl
theorem fa120_0 : tyFA Try.prog 120 0 = some 0 := by kernel_rfl
theorem ft120_0 : tyFT Try.prog 120 0 = some (0, 12) := by kernel_rfl
theorem fa120_1 : tyFA Try.prog 120 1 = some 1 := by kernel_rfl
theorem ft120_1 : tyFT Try.prog 120 1 = some (1, 12) := by kernel_rfl
theorem fa120_2 : tyFA Try.prog 120 2 = some 2 := by kernel_rfl
theorem ft120_2 : tyFT Try.prog 120 2 = some (2, 87) := by kernel_rfl
theorem fa120_3 : tyFA Try.prog 120 3 = some 3 := by kernel_rfl
theorem ft120_3 : tyFT Try.prog 120 3 = some (3, 113) := by kernel_rfl
theorem fa120_4 : tyFA Try.prog 120 4 = some 4 := by kernel_rfl
theorem ft120_4 : tyFT Try.prog 120 4 = some (4, 5) := by kernel_rfl
theorem fa120_5 : tyFA Try.prog 120 5 = some 5 := by kernel_rfl
theorem ft120_5 : tyFT Try.prog 120 5 = some (5, 5) := by kernel_rfl
theorem fa120_6 : tyFA Try.prog 120 6 = some 6 := by kernel_rfl
theorem ft120_6 : tyFT Try.prog 120 6 = some (6, 114) := by kernel_rfl
theorem fa120_7 : tyFA Try.prog 120 7 = some 7 := by kernel_rfl
theorem ft120_7 : tyFT Try.prog 120 7 = some (7, 115) := by kernel_rfl
theorem fa120_8 : tyFA Try.prog 120 8 = some 8 := by kernel_rfl
theorem ft120_8 : tyFT Try.prog 120 8 = some (8, 116) := by kernel_rfl
theorem fa120_9 : tyFA Try.prog 120 9 = some 9 := by kernel_rfl
theorem ft120_9 : tyFT Try.prog 120 9 = some (9, 117) := by kernel_rfl
theorem fa120_10 : tyFA Try.prog 120 10 = some 10 := by kernel_rfl
theorem ft120_10 : tyFT Try.prog 120 10 = some (10, 118) := by kernel_rfl
theorem ag121 : tyAgg Try.prog 121 = some false := by kernel_rfl
theorem sz121 : tySz Try.prog 121 = some 1 := by kernel_rfl
theorem by121 : tyBy Try.prog 121 = some 8 := by kernel_rfl
theorem un121 : (Try.prog.underlying 121).isSome = true := by kernel_rfl
theorem ni121 : tyNoIf Try.prog 121 = true := by kernel_rfl
theorem kt121 : tyKsT Try.prog 121 = [none] := by kernel_rfl
theorem bo121 : tyBool Try.prog 121 = false := by kernel_rfl
theorem st121 : tyStr Try.prog 121 = false := by kernel_rfl
theorem ze121 : tyZ Try.prog 121 = some [.val (.pointer none)] := by kernel_rfl
theorem fo : Try.prog.follows .mixedOrders = true := by kernel_rfl
theorem ca3 : callable Try.prog 3 = true := by kernel_rfl
theorem ca4 : callable Try.prog 4 = true := by kernel_rfl
theorem ca5 : callable Try.prog 5 = true := by kernel_rfl
theorem ca6 : callable Try.prog 6 = true := by kernel_rfl
theorem ca7 : callable Try.prog 7 = true := by kernel_rfl
theorem ca8 : callable Try.prog 8 = true := by kernel_rfl
theorem ca9 : callable Try.prog 9 = true := by kernel_rfl
theorem ca10 : callable Try.prog 10 = true := by kernel_rfl
theorem ca11 : callable Try.prog 11 = true := by kernel_rfl
theorem ca12 : callable Try.prog 12 = true := by kernel_rfl
theorem ca13 : callable Try.prog 13 = true := by kernel_rfl
theorem ca14 : callable Try.prog 14 = true := by kernel_rfl
theorem ca15 : callable Try.prog 15 = true := by kernel_rfl
theorem ca16 : callable Try.prog 16 = true := by kernel_rfl
theorem ca17 : callable Try.prog 17 = true := by kernel_rfl
theorem ca18 : callable Try.prog 18 = true := by kernel_rfl
theorem ca19 : callable Try.prog 19 = true := by kernel_rfl
theorem ca20 : callable Try.prog 20 = true := by kernel_rfl
theorem ca21 : callable Try.prog 21 = true := by kernel_rfl
theorem ca22 : callable Try.prog 22 = true := by kernel_rfl
theorem ca23 : callable Try.prog 23 = true := by kernel_rfl
theorem ca24 : callable Try.prog 24 = true := by kernel_rfl
theorem ca25 : callable Try.prog 25 = true := by kernel_rfl
theorem ca26 : callable Try.prog 26 = true := by kernel_rfl
theorem ca27 : callable Try.prog 27 = true := by kernel_rfl
theorem ca28 : callable Try.prog 28 = true := by kernel_rfl
theorem ca29 : callable Try.prog 29 = true := by kernel_rfl
theorem ca30 : callable Try.prog 30 = true := by kernel_rfl
theorem ca31 : callable Try.prog 31 = true := by kernel_rfl
theorem ca32 : callable Try.prog 32 = true := by kernel_rfl
theorem ca33 : callable Try.prog 33 = true := by kernel_rfl
theorem ca34 : callable Try.prog 34 = true := by kernel_rfl
theorem ca35 : callable Try.prog 35 = true := by kernel_rfl
theorem ca36 : callable Try.prog 36 = true := by kernel_rfl
theorem ca37 : callable Try.prog 37 = true := by kernel_rfl
theorem ca38 : callable Try.prog 38 = true := by kernel_rfl
theorem ca39 : callable Try.prog 39 = true := by kernel_rfl
theorem ca40 : callable Try.prog 40 = true := by kernel_rfl
theorem ca41 : callable Try.prog 41 = true := by kernel_rfl
theorem ca42 : callable Try.prog 42 = true := by kernel_rfl
theorem ca43 : callable Try.prog 43 = true := by kernel_rfl
theorem ca44 : callable Try.prog 44 = true := by kernel_rfl
theorem ca45 : callable Try.prog 45 = true := by kernel_rfl
theorem ca46 : callable Try.prog 46 = true := by kernel_rfl
theorem ca47 : callable Try.prog 47 = true := by kernel_rfl
theorem ca48 : callable Try.prog 48 = true := by kernel_rfl
theorem ca49 : callable Try.prog 49 = true := by kernel_rfl
theorem ca50 : callable Try.prog 50 = true := by kernel_rfl
theorem ca51 : callable Try.prog 51 = true := by kernel_rfl
theorem ca52 : callable Try.prog 52 = true := by kernel_rfl
theorem ca53 : callable Try.prog 53 = true := by kernel_rfl
theorem ca54 : callable Try.prog 54 = true := by kernel_rfl
theorem ca55 : callable Try.prog 55 = true := by kernel_rfl
theorem ca56 : callable Try.prog 56 = true := by kernel_rfl
theorem ca57 : callable Try.prog 57 = true := by kernel_rfl
theorem ca58 : callable Try.prog 58 = true := by kernel_rfl
theorem ca59 : callable Try.prog 59 = true := by kernel_rfl
theorem ca60 : callable Try.prog 60 = true := by kernel_rfl
theorem ca61 : callable Try.prog 61 = true := by kernel_rfl
theorem ca62 : callable Try.prog 62 = true := by kernel_rfl
theorem ca63 : callable Try.prog 63 = true := by kernel_rfl
theorem ca64 : callable Try.prog 64 = true := by kernel_rfl
theorem ca65 : callable Try.prog 65 = true := by kernel_rfl
theorem ca66 : callable Try.prog 66 = true := by kernel_rfl
theorem ca67 : callable Try.prog 67 = true := by kernel_rfl
theorem ca68 : callable Try.prog 68 = true := by kernel_rfl
theorem ca69 : callable Try.prog 69 = true := by kernel_rfl
theorem ca70 : callable Try.prog 70 = true := by kernel_rfl
theorem ca71 : callable Try.prog 71 = true := by kernel_rfl
theorem ca72 : callable Try.prog 72 = true := by kernel_rfl
theorem ca73 : callable Try.prog 73 = true := by kernel_rfl
theorem ca74 : callable Try.prog 74 = true := by kernel_rfl
theorem ca75 : callable Try.prog 75 = true := by kernel_rfl
theorem ca76 : callable Try.prog 76 = true := by kernel_rfl
theorem tabs : ((((((((((type_of% @nk1) ∧ (type_of% @ag1)) ∧ ((type_of% @sz1) ∧ ((type_of% @by1) ∧ (type_of% @un1)))) ∧ (((type_of% @ni1) ∧ (type_of% @kt1)) ∧ ((type_of% @bo1) ∧ ((type_of% @st1) ∧ (type_of% @ze1))))) ∧ ((((type_of% @ag2) ∧ (type_of% @sz2)) ∧ ((type_of% @by2) ∧ ((type_of% @un2) ∧ (type_of% @ni2)))) ∧ (((type_of% @zo2) ∧ ((type_of% @kt2) ∧ (type_of% @in2))) ∧ ((type_of% @bo2) ∧ ((type_of% @st2) ∧ (type_of% @ze2)))))) ∧ (((((type_of% @ag3) ∧ (type_of% @sz3)) ∧ ((type_of% @by3) ∧ ((type_of% @un3) ∧ (type_of% @ni3)))) ∧ (((type_of% @zo3) ∧ (type_of% @kt3)) ∧ ((type_of% @in3) ∧ ((type_of% @bo3) ∧ (type_of% @st3))))) ∧ ((((type_of% @ze3) ∧ (type_of% @ag4)) ∧ ((type_of% @sz4) ∧ ((type_of% @by4) ∧ (type_of% @un4)))) ∧ (((type_of% @ni4) ∧ ((type_of% @zo4) ∧ (type_of% @kt4))) ∧ ((type_of% @bo4) ∧ ((type_of% @st4) ∧ (type_of% @ze4))))))) ∧ ((((((type_of% @ag5) ∧ (type_of% @sz5)) ∧ ((type_of% @by5) ∧ ((type_of% @un5) ∧ (type_of% @ni5)))) ∧ (((type_of% @zo5) ∧ (type_of% @kt5)) ∧ ((type_of% @in5) ∧ ((type_of% @bo5) ∧ (type_of% @st5))))) ∧ ((((type_of% @ze5) ∧ (type_of% @ag6)) ∧ ((type_of% @sz6) ∧ ((type_of% @by6) ∧ (type_of% @un6)))) ∧ (((type_of% @ni6) ∧ ((type_of% @zo6) ∧ (type_of% @kt6))) ∧ ((type_of% @in6) ∧ ((type_of% @bo6) ∧ (type_of% @st6)))))) ∧ (((((type_of% @ze6) ∧ (type_of% @ag7)) ∧ ((type_of% @sz7) ∧ ((type_of% @by7) ∧ (type_of% @un7)))) ∧ (((type_of% @ni7) ∧ (type_of% @kt7)) ∧ ((type_of% @bo7) ∧ ((type_of% @st7) ∧ (type_of% @ze7))))) ∧ ((((type_of% @fi7) ∧ (type_of% @fa7_0)) ∧ ((type_of% @ft7_0) ∧ ((type_of% @fa7_1) ∧ (type_of% @ft7_1)))) ∧ (((type_of% @fa7_2) ∧ ((type_of% @ft7_2) ∧ (type_of% @fa7_3))) ∧ ((type_of% @ft7_3) ∧ ((type_of% @ag8) ∧ (type_of% @sz8)))))))) ∧ (((((((type_of% @by8) ∧ (type_of% @un8)) ∧ ((type_of% @ni8) ∧ ((type_of% @kt8) ∧ (type_of% @bo8)))) ∧ (((type_of% @st8) ∧ (type_of% @ze8)) ∧ ((type_of% @fi8) ∧ ((type_of% @fa8_0) ∧ (type_of% @ft8_0))))) ∧ ((((type_of% @fa8_1) ∧ (type_of% @ft8_1)) ∧ ((type_of% @fa8_2) ∧ ((type_of% @ft8_2) ∧ (type_of% @fa8_3)))) ∧ (((type_of% @ft8_3) ∧ ((type_of% @ag9) ∧ (type_of% @sz9))) ∧ ((type_of% @by9) ∧ ((type_of% @un9) ∧ (type_of% @ni9)))))) ∧ (((((type_of% @zo9) ∧ (type_of% @kt9)) ∧ ((type_of% @bo9) ∧ ((type_of% @st9) ∧ (type_of% @ze9)))) ∧ (((type_of% @ag10) ∧ (type_of% @sz10)) ∧ ((type_of% @by10) ∧ ((type_of% @un10) ∧ (type_of% @ni10))))) ∧ ((((type_of% @zo10) ∧ (type_of% @kt10)) ∧ ((type_of% @bo10) ∧ ((type_of% @st10) ∧ (type_of% @ze10)))) ∧ (((type_of% @ag11) ∧ ((type_of% @sz11) ∧ (type_of% @by11))) ∧ ((type_of% @un11) ∧ ((type_of% @ni11) ∧ (type_of% @zo11))))))) ∧ ((((((type_of% @kt11) ∧ (type_of% @bo11)) ∧ ((type_of% @st11) ∧ ((type_of% @ze11) ∧ (type_of% @ag12)))) ∧ (((type_of% @sz12) ∧ (type_of% @by12)) ∧ ((type_of% @un12) ∧ ((type_of% @ni12) ∧ (type_of% @zo12))))) ∧ ((((type_of% @kt12) ∧ (type_of% @in12)) ∧ ((type_of% @bo12) ∧ ((type_of% @st12) ∧ (type_of% @ze12)))) ∧ (((type_of% @ag13) ∧ ((type_of% @sz13) ∧ (type_of% @by13))) ∧ ((type_of% @un13) ∧ ((type_of% @ni13) ∧ (type_of% @kt13)))))) ∧ (((((type_of% @bo13) ∧ (type_of% @st13)) ∧ ((type_of% @ze13) ∧ ((type_of% @fi13) ∧ (type_of% @fa13_0)))) ∧ (((type_of% @ft13_0) ∧ (type_of% @fa13_1)) ∧ ((type_of% @ft13_1) ∧ ((type_of% @ag14) ∧ (type_of% @sz14))))) ∧ ((((type_of% @by14) ∧ (type_of% @un14)) ∧ ((type_of% @ni14) ∧ ((type_of% @kt14) ∧ (type_of% @bo14)))) ∧ (((type_of% @st14) ∧ ((type_of% @ze14) ∧ (type_of% @fi14))) ∧ ((type_of% @fa14_0) ∧ ((type_of% @ft14_0) ∧ (type_of% @fa14_1))))))))) ∧ ((((((((type_of% @ft14_1) ∧ (type_of% @nk15)) ∧ ((type_of% @ag15) ∧ ((type_of% @sz15) ∧ (type_of% @by15)))) ∧ (((type_of% @un15) ∧ (type_of% @ni15)) ∧ ((type_of% @zo15) ∧ ((type_of% @kt15) ∧ (type_of% @bo15))))) ∧ ((((type_of% @st15) ∧ (type_of% @ze15)) ∧ ((type_of% @nk16) ∧ ((type_of% @ag16) ∧ (type_of% @sz16)))) ∧ (((type_of% @by16) ∧ ((type_of% @un16) ∧ (type_of% @ni16))) ∧ ((type_of% @zo16) ∧ ((type_of% @kt16) ∧ (type_of% @bo16)))))) ∧ (((((type_of% @st16) ∧ (type_of% @ze16)) ∧ ((type_of% @nk17) ∧ ((type_of% @ag17) ∧ (type_of% @sz17)))) ∧ (((type_of% @by17) ∧ (type_of% @un17)) ∧ ((type_of% @ni17) ∧ ((type_of% @zo17) ∧ (type_of% @kt17))))) ∧ ((((type_of% @bo17) ∧ (type_of% @st17)) ∧ ((type_of% @ze17) ∧ ((type_of% @ag18) ∧ (type_of% @sz18)))) ∧ (((type_of% @by18) ∧ ((type_of% @un18) ∧ (type_of% @ni18))) ∧ ((type_of% @kt18) ∧ ((type_of% @bo18) ∧ (type_of% @st18))))))) ∧ ((((((type_of% @ze18) ∧ (type_of% @fi18)) ∧ ((type_of% @fa18_0) ∧ ((type_of% @ft18_0) ∧ (type_of% @ag19)))) ∧ (((type_of% @sz19) ∧ (type_of% @by19)) ∧ ((type_of% @un19) ∧ ((type_of% @ni19) ∧ (type_of% @kt19))))) ∧ ((((type_of% @bo19) ∧ (type_of% @st19)) ∧ ((type_of% @ze19) ∧ ((type_of% @fi19) ∧ (type_of% @fa19_0)))) ∧ (((type_of% @ft19_0) ∧ ((type_of% @nk20) ∧ (type_of% @ag20))) ∧ ((type_of% @sz20) ∧ ((type_of% @by20) ∧ (type_of% @un20)))))) ∧ (((((type_of% @ni20) ∧ (type_of% @kt20)) ∧ ((type_of% @bo20) ∧ ((type_of% @st20) ∧ (type_of% @ze20)))) ∧ (((type_of% @ag21) ∧ (type_of% @sz21)) ∧ ((type_of% @by21) ∧ ((type_of% @un21) ∧ (type_of% @ni21))))) ∧ ((((type_of% @zo21) ∧ (type_of% @kt21)) ∧ ((type_of% @in21) ∧ ((type_of% @bo21) ∧ (type_of% @st21)))) ∧ (((type_of% @ze21) ∧ ((type_of% @nk22) ∧ (type_of% @ag22))) ∧ ((type_of% @sz22) ∧ ((type_of% @by22) ∧ (type_of% @un22)))))))) ∧ (((((((type_of% @ni22) ∧ (type_of% @zo22)) ∧ ((type_of% @ke22) ∧ ((type_of% @kt22) ∧ (type_of% @el22)))) ∧ (((type_of% @bo22) ∧ (type_of% @st22)) ∧ ((type_of% @ze22) ∧ ((type_of% @nk23) ∧ (type_of% @ag23))))) ∧ ((((type_of% @sz23) ∧ (type_of% @by23)) ∧ ((type_of% @un23) ∧ ((type_of% @ni23) ∧ (type_of% @kt23)))) ∧ (((type_of% @bo23) ∧ ((type_of% @st23) ∧ (type_of% @ze23))) ∧ ((type_of% @nk24) ∧ ((type_of% @ag24) ∧ (type_of% @sz24)))))) ∧ (((((type_of% @by24) ∧ (type_of% @un24)) ∧ ((type_of% @ni24) ∧ ((type_of% @zo24) ∧ (type_of% @kt24)))) ∧ (((type_of% @bo24) ∧ (type_of% @st24)) ∧ ((type_of% @ze24) ∧ ((type_of% @ag25) ∧ (type_of% @sz25))))) ∧ ((((type_of% @by25) ∧ (type_of% @un25)) ∧ ((type_of% @ni25) ∧ ((type_of% @zo25) ∧ (type_of% @kt25)))) ∧ (((type_of% @in25) ∧ ((type_of% @bo25) ∧ (type_of% @st25))) ∧ ((type_of% @ze25) ∧ ((type_of% @nk27) ∧ (type_of% @ag27))))))) ∧ ((((((type_of% @sz27) ∧ (type_of% @by27)) ∧ ((type_of% @un27) ∧ ((type_of% @ni27) ∧ (type_of% @kt27)))) ∧ (((type_of% @bo27) ∧ (type_of% @st27)) ∧ ((type_of% @ze27) ∧ ((type_of% @nk29) ∧ (type_of% @ag29))))) ∧ ((((type_of% @sz29) ∧ (type_of% @by29)) ∧ ((type_of% @un29) ∧ ((type_of% @ni29) ∧ (type_of% @kt29)))) ∧ (((type_of% @bo29) ∧ ((type_of% @st29) ∧ (type_of% @ze29))) ∧ ((type_of% @nk30) ∧ ((type_of% @ag30) ∧ (type_of% @sz30)))))) ∧ (((((type_of% @by30) ∧ (type_of% @un30)) ∧ ((type_of% @ni30) ∧ ((type_of% @kt30) ∧ (type_of% @bo30)))) ∧ (((type_of% @st30) ∧ ((type_of% @ze30) ∧ (type_of% @nk31))) ∧ ((type_of% @ag31) ∧ ((type_of% @sz31) ∧ (type_of% @by31))))) ∧ ((((type_of% @un31) ∧ (type_of% @ni31)) ∧ ((type_of% @kt31) ∧ ((type_of% @bo31) ∧ (type_of% @st31)))) ∧ (((type_of% @ze31) ∧ ((type_of% @nk32) ∧ (type_of% @ag32))) ∧ ((type_of% @sz32) ∧ ((type_of% @by32) ∧ (type_of% @un32)))))))))) ∧ (((((((((type_of% @ni32) ∧ (type_of% @kt32)) ∧ ((type_of% @bo32) ∧ ((type_of% @st32) ∧ (type_of% @ze32)))) ∧ (((type_of% @nk34) ∧ (type_of% @ag34)) ∧ ((type_of% @sz34) ∧ ((type_of% @by34) ∧ (type_of% @un34))))) ∧ ((((type_of% @ni34) ∧ (type_of% @kt34)) ∧ ((type_of% @bo34) ∧ ((type_of% @st34) ∧ (type_of% @ze34)))) ∧ (((type_of% @nk35) ∧ ((type_of% @ag35) ∧ (type_of% @sz35))) ∧ ((type_of% @by35) ∧ ((type_of% @un35) ∧ (type_of% @ni35)))))) ∧ (((((type_of% @kt35) ∧ (type_of% @bo35)) ∧ ((type_of% @st35) ∧ ((type_of% @ze35) ∧ (type_of% @nk36)))) ∧ (((type_of% @ag36) ∧ (type_of% @sz36)) ∧ ((type_of% @by36) ∧ ((type_of% @un36) ∧ (type_of% @ni36))))) ∧ ((((type_of% @kt36) ∧ (type_of% @bo36)) ∧ ((type_of% @st36) ∧ ((type_of% @ze36) ∧ (type_of% @nk37)))) ∧ (((type_of% @ag37) ∧ ((type_of% @sz37) ∧ (type_of% @by37))) ∧ ((type_of% @un37) ∧ ((type_of% @ni37) ∧ (type_of% @kt37))))))) ∧ ((((((type_of% @bo37) ∧ (type_of% @st37)) ∧ ((type_of% @ze37) ∧ ((type_of% @nk38) ∧ (type_of% @ag38)))) ∧ (((type_of% @sz38) ∧ (type_of% @by38)) ∧ ((type_of% @un38) ∧ ((type_of% @ni38) ∧ (type_of% @kt38))))) ∧ ((((type_of% @bo38) ∧ (type_of% @st38)) ∧ ((type_of% @ze38) ∧ ((type_of% @nk39) ∧ (type_of% @ag39)))) ∧ (((type_of% @sz39) ∧ ((type_of% @by39) ∧ (type_of% @un39))) ∧ ((type_of% @ni39) ∧ ((type_of% @kt39) ∧ (type_of% @bo39)))))) ∧ (((((type_of% @st39) ∧ (type_of% @ze39)) ∧ ((type_of% @nk40) ∧ ((type_of% @ag40) ∧ (type_of% @sz40)))) ∧ (((type_of% @by40) ∧ (type_of% @un40)) ∧ ((type_of% @ni40) ∧ ((type_of% @kt40) ∧ (type_of% @bo40))))) ∧ ((((type_of% @st40) ∧ (type_of% @ze40)) ∧ ((type_of% @nk41) ∧ ((type_of% @ag41) ∧ (type_of% @sz41)))) ∧ (((type_of% @by41) ∧ ((type_of% @un41) ∧ (type_of% @ni41))) ∧ ((type_of% @zo41) ∧ ((type_of% @ke41) ∧ (type_of% @kt41)))))))) ∧ (((((((type_of% @el41) ∧ (type_of% @bo41)) ∧ ((type_of% @st41) ∧ ((type_of% @ze41) ∧ (type_of% @nk43)))) ∧ (((type_of% @ag43) ∧ (type_of% @sz43)) ∧ ((type_of% @by43) ∧ ((type_of% @un43) ∧ (type_of% @ni43))))) ∧ ((((type_of% @kt43) ∧ (type_of% @bo43)) ∧ ((type_of% @st43) ∧ ((type_of% @ze43) ∧ (type_of% @nk44)))) ∧ (((type_of% @ag44) ∧ ((type_of% @sz44) ∧ (type_of% @by44))) ∧ ((type_of% @un44) ∧ ((type_of% @ni44) ∧ (type_of% @kt44)))))) ∧ (((((type_of% @bo44) ∧ (type_of% @st44)) ∧ ((type_of% @ze44) ∧ ((type_of% @nk46) ∧ (type_of% @ag46)))) ∧ (((type_of% @sz46) ∧ (type_of% @by46)) ∧ ((type_of% @un46) ∧ ((type_of% @ni46) ∧ (type_of% @kt46))))) ∧ ((((type_of% @bo46) ∧ (type_of% @st46)) ∧ ((type_of% @ze46) ∧ ((type_of% @nk47) ∧ (type_of% @ag47)))) ∧ (((type_of% @sz47) ∧ ((type_of% @by47) ∧ (type_of% @un47))) ∧ ((type_of% @ni47) ∧ ((type_of% @kt47) ∧ (type_of% @bo47))))))) ∧ ((((((type_of% @st47) ∧ (type_of% @ze47)) ∧ ((type_of% @nk48) ∧ ((type_of% @ag48) ∧ (type_of% @sz48)))) ∧ (((type_of% @by48) ∧ (type_of% @un48)) ∧ ((type_of% @ni48) ∧ ((type_of% @kt48) ∧ (type_of% @bo48))))) ∧ ((((type_of% @st48) ∧ (type_of% @ze48)) ∧ ((type_of% @nk49) ∧ ((type_of% @ag49) ∧ (type_of% @sz49)))) ∧ (((type_of% @by49) ∧ ((type_of% @un49) ∧ (type_of% @ni49))) ∧ ((type_of% @kt49) ∧ ((type_of% @bo49) ∧ (type_of% @st49)))))) ∧ (((((type_of% @ze49) ∧ (type_of% @nk50)) ∧ ((type_of% @ag50) ∧ ((type_of% @sz50) ∧ (type_of% @by50)))) ∧ (((type_of% @un50) ∧ ((type_of% @ni50) ∧ (type_of% @kt50))) ∧ ((type_of% @bo50) ∧ ((type_of% @st50) ∧ (type_of% @ze50))))) ∧ ((((type_of% @nk51) ∧ (type_of% @ag51)) ∧ ((type_of% @sz51) ∧ ((type_of% @by51) ∧ (type_of% @un51)))) ∧ (((type_of% @ni51) ∧ ((type_of% @kt51) ∧ (type_of% @bo51))) ∧ ((type_of% @st51) ∧ ((type_of% @ze51) ∧ (type_of% @nk52))))))))) ∧ ((((((((type_of% @ag52) ∧ (type_of% @sz52)) ∧ ((type_of% @by52) ∧ ((type_of% @un52) ∧ (type_of% @ni52)))) ∧ (((type_of% @kt52) ∧ (type_of% @bo52)) ∧ ((type_of% @st52) ∧ ((type_of% @ze52) ∧ (type_of% @nk53))))) ∧ ((((type_of% @ag53) ∧ (type_of% @sz53)) ∧ ((type_of% @by53) ∧ ((type_of% @un53) ∧ (type_of% @ni53)))) ∧ (((type_of% @kt53) ∧ ((type_of% @bo53) ∧ (type_of% @st53))) ∧ ((type_of% @ze53) ∧ ((type_of% @nk54) ∧ (type_of% @ag54)))))) ∧ (((((type_of% @sz54) ∧ (type_of% @by54)) ∧ ((type_of% @un54) ∧ ((type_of% @ni54) ∧ (type_of% @zo54)))) ∧ (((type_of% @ke54) ∧ (type_of% @kt54)) ∧ ((type_of% @el54) ∧ ((type_of% @bo54) ∧ (type_of% @st54))))) ∧ ((((type_of% @ze54) ∧ (type_of% @nk55)) ∧ ((type_of% @ag55) ∧ ((type_of% @sz55) ∧ (type_of% @by55)))) ∧ (((type_of% @un55) ∧ ((type_of% @ni55) ∧ (type_of% @zo55))) ∧ ((type_of% @ke55) ∧ ((type_of% @kt55) ∧ (type_of% @el55))))))) ∧ ((((((type_of% @bo55) ∧ (type_of% @st55)) ∧ ((type_of% @ze55) ∧ ((type_of% @ag56) ∧ (type_of% @sz56)))) ∧ (((type_of% @by56) ∧ (type_of% @un56)) ∧ ((type_of% @ni56) ∧ ((type_of% @kt56) ∧ (type_of% @bo56))))) ∧ ((((type_of% @st56) ∧ (type_of% @ze56)) ∧ ((type_of% @fi56) ∧ ((type_of% @fa56_0) ∧ (type_of% @ft56_0)))) ∧ (((type_of% @fa56_1) ∧ ((type_of% @ft56_1) ∧ (type_of% @fa56_2))) ∧ ((type_of% @ft56_2) ∧ ((type_of% @fa56_3) ∧ (type_of% @ft56_3)))))) ∧ (((((type_of% @ag57) ∧ (type_of% @sz57)) ∧ ((type_of% @by57) ∧ ((type_of% @un57) ∧ (type_of% @ni57)))) ∧ (((type_of% @kt57) ∧ (type_of% @bo57)) ∧ ((type_of% @st57) ∧ ((type_of% @ze57) ∧ (type_of% @fi57))))) ∧ ((((type_of% @fa57_0) ∧ (type_of% @ft57_0)) ∧ ((type_of% @fa57_1) ∧ ((type_of% @ft57_1) ∧ (type_of% @fa57_2)))) ∧ (((type_of% @ft57_2) ∧ ((type_of% @fa57_3) ∧ (type_of% @ft57_3))) ∧ ((type_of% @nk58) ∧ ((type_of% @ag58) ∧ (type_of% @sz58)))))))) ∧ (((((((type_of% @by58) ∧ (type_of% @un58)) ∧ ((type_of% @ni58) ∧ ((type_of% @kt58) ∧ (type_of% @bo58)))) ∧ (((type_of% @st58) ∧ (type_of% @ze58)) ∧ ((type_of% @nk59) ∧ ((type_of% @ag59) ∧ (type_of% @sz59))))) ∧ ((((type_of% @by59) ∧ (type_of% @un59)) ∧ ((type_of% @ni59) ∧ ((type_of% @kt59) ∧ (type_of% @bo59)))) ∧ (((type_of% @st59) ∧ ((type_of% @ze59) ∧ (type_of% @nk60))) ∧ ((type_of% @ag60) ∧ ((type_of% @sz60) ∧ (type_of% @by60)))))) ∧ (((((type_of% @un60) ∧ (type_of% @ni60)) ∧ ((type_of% @kt60) ∧ ((type_of% @bo60) ∧ (type_of% @st60)))) ∧ (((type_of% @ze60) ∧ (type_of% @nk61)) ∧ ((type_of% @ag61) ∧ ((type_of% @sz61) ∧ (type_of% @by61))))) ∧ ((((type_of% @un61) ∧ (type_of% @ni61)) ∧ ((type_of% @kt61) ∧ ((type_of% @bo61) ∧ (type_of% @st61)))) ∧ (((type_of% @ze61) ∧ ((type_of% @ag62) ∧ (type_of% @sz62))) ∧ ((type_of% @by62) ∧ ((type_of% @un62) ∧ (type_of% @ni62))))))) ∧ ((((((type_of% @zo62) ∧ (type_of% @kt62)) ∧ ((type_of% @in62) ∧ ((type_of% @bo62) ∧ (type_of% @st62)))) ∧ (((type_of% @ze62) ∧ (type_of% @nk63)) ∧ ((type_of% @ag63) ∧ ((type_of% @sz63) ∧ (type_of% @by63))))) ∧ ((((type_of% @un63) ∧ (type_of% @ni63)) ∧ ((type_of% @kt63) ∧ ((type_of% @bo63) ∧ (type_of% @st63)))) ∧ (((type_of% @ze63) ∧ ((type_of% @nk64) ∧ (type_of% @ag64))) ∧ ((type_of% @sz64) ∧ ((type_of% @by64) ∧ (type_of% @un64)))))) ∧ (((((type_of% @ni64) ∧ (type_of% @zo64)) ∧ ((type_of% @ke64) ∧ ((type_of% @kt64) ∧ (type_of% @el64)))) ∧ (((type_of% @bo64) ∧ ((type_of% @st64) ∧ (type_of% @ze64))) ∧ ((type_of% @nk65) ∧ ((type_of% @ag65) ∧ (type_of% @sz65))))) ∧ ((((type_of% @by65) ∧ (type_of% @un65)) ∧ ((type_of% @ni65) ∧ ((type_of% @kt65) ∧ (type_of% @bo65)))) ∧ (((type_of% @st65) ∧ ((type_of% @ze65) ∧ (type_of% @ag66))) ∧ ((type_of% @sz66) ∧ ((type_of% @by66) ∧ (type_of% @un66))))))))))) ∧ ((((((((((type_of% @ni66) ∧ (type_of% @kt66)) ∧ ((type_of% @bo66) ∧ ((type_of% @st66) ∧ (type_of% @ze66)))) ∧ (((type_of% @fi66) ∧ (type_of% @fa66_0)) ∧ ((type_of% @ft66_0) ∧ ((type_of% @fa66_1) ∧ (type_of% @ft66_1))))) ∧ ((((type_of% @fa66_2) ∧ (type_of% @ft66_2)) ∧ ((type_of% @ag67) ∧ ((type_of% @sz67) ∧ (type_of% @by67)))) ∧ (((type_of% @un67) ∧ ((type_of% @ni67) ∧ (type_of% @kt67))) ∧ ((type_of% @bo67) ∧ ((type_of% @st67) ∧ (type_of% @ze67)))))) ∧ (((((type_of% @fi67) ∧ (type_of% @fa67_0)) ∧ ((type_of% @ft67_0) ∧ ((type_of% @fa67_1) ∧ (type_of% @ft67_1)))) ∧ (((type_of% @fa67_2) ∧ (type_of% @ft67_2)) ∧ ((type_of% @nk69) ∧ ((type_of% @ag69) ∧ (type_of% @sz69))))) ∧ ((((type_of% @by69) ∧ (type_of% @un69)) ∧ ((type_of% @ni69) ∧ ((type_of% @kt69) ∧ (type_of% @bo69)))) ∧ (((type_of% @st69) ∧ ((type_of% @ze69) ∧ (type_of% @nk70))) ∧ ((type_of% @ag70) ∧ ((type_of% @sz70) ∧ (type_of% @by70))))))) ∧ ((((((type_of% @un70) ∧ (type_of% @ni70)) ∧ ((type_of% @kt70) ∧ ((type_of% @bo70) ∧ (type_of% @st70)))) ∧ (((type_of% @ze70) ∧ (type_of% @nk71)) ∧ ((type_of% @ag71) ∧ ((type_of% @sz71) ∧ (type_of% @by71))))) ∧ ((((type_of% @un71) ∧ (type_of% @ni71)) ∧ ((type_of% @kt71) ∧ ((type_of% @bo71) ∧ (type_of% @st71)))) ∧ (((type_of% @ze71) ∧ ((type_of% @nk72) ∧ (type_of% @ag72))) ∧ ((type_of% @sz72) ∧ ((type_of% @by72) ∧ (type_of% @un72)))))) ∧ (((((type_of% @ni72) ∧ (type_of% @kt72)) ∧ ((type_of% @bo72) ∧ ((type_of% @st72) ∧ (type_of% @ze72)))) ∧ (((type_of% @ag73) ∧ (type_of% @sz73)) ∧ ((type_of% @by73) ∧ ((type_of% @un73) ∧ (type_of% @ni73))))) ∧ ((((type_of% @zo73) ∧ (type_of% @kt73)) ∧ ((type_of% @in73) ∧ ((type_of% @bo73) ∧ (type_of% @st73)))) ∧ (((type_of% @ze73) ∧ ((type_of% @nk74) ∧ (type_of% @ag74))) ∧ ((type_of% @sz74) ∧ ((type_of% @by74) ∧ (type_of% @un74)))))))) ∧ (((((((type_of% @ni74) ∧ (type_of% @kt74)) ∧ ((type_of% @bo74) ∧ ((type_of% @st74) ∧ (type_of% @ze74)))) ∧ (((type_of% @nk75) ∧ (type_of% @ag75)) ∧ ((type_of% @sz75) ∧ ((type_of% @by75) ∧ (type_of% @un75))))) ∧ ((((type_of% @ni75) ∧ (type_of% @kt75)) ∧ ((type_of% @bo75) ∧ ((type_of% @st75) ∧ (type_of% @ze75)))) ∧ (((type_of% @nk76) ∧ ((type_of% @ag76) ∧ (type_of% @sz76))) ∧ ((type_of% @by76) ∧ ((type_of% @un76) ∧ (type_of% @ni76)))))) ∧ (((((type_of% @kt76) ∧ (type_of% @bo76)) ∧ ((type_of% @st76) ∧ ((type_of% @ze76) ∧ (type_of% @nk77)))) ∧ (((type_of% @ag77) ∧ (type_of% @sz77)) ∧ ((type_of% @by77) ∧ ((type_of% @un77) ∧ (type_of% @ni77))))) ∧ ((((type_of% @kt77) ∧ (type_of% @bo77)) ∧ ((type_of% @st77) ∧ ((type_of% @ze77) ∧ (type_of% @nk78)))) ∧ (((type_of% @ag78) ∧ ((type_of% @sz78) ∧ (type_of% @by78))) ∧ ((type_of% @un78) ∧ ((type_of% @ni78) ∧ (type_of% @kt78))))))) ∧ ((((((type_of% @bo78) ∧ (type_of% @st78)) ∧ ((type_of% @ze78) ∧ ((type_of% @nk79) ∧ (type_of% @ag79)))) ∧ (((type_of% @sz79) ∧ (type_of% @by79)) ∧ ((type_of% @un79) ∧ ((type_of% @ni79) ∧ (type_of% @kt79))))) ∧ ((((type_of% @bo79) ∧ (type_of% @st79)) ∧ ((type_of% @ze79) ∧ ((type_of% @nk80) ∧ (type_of% @ag80)))) ∧ (((type_of% @sz80) ∧ ((type_of% @by80) ∧ (type_of% @un80))) ∧ ((type_of% @ni80) ∧ ((type_of% @kt80) ∧ (type_of% @bo80)))))) ∧ (((((type_of% @st80) ∧ (type_of% @ze80)) ∧ ((type_of% @ag81) ∧ ((type_of% @sz81) ∧ (type_of% @by81)))) ∧ (((type_of% @un81) ∧ (type_of% @ni81)) ∧ ((type_of% @zo81) ∧ ((type_of% @kt81) ∧ (type_of% @in81))))) ∧ ((((type_of% @bo81) ∧ (type_of% @st81)) ∧ ((type_of% @ze81) ∧ ((type_of% @nk83) ∧ (type_of% @ag83)))) ∧ (((type_of% @sz83) ∧ ((type_of% @by83) ∧ (type_of% @un83))) ∧ ((type_of% @ni83) ∧ ((type_of% @kt83) ∧ (type_of% @bo83))))))))) ∧ ((((((((type_of% @st83) ∧ (type_of% @ze83)) ∧ ((type_of% @nk84) ∧ ((type_of% @ag84) ∧ (type_of% @sz84)))) ∧ (((type_of% @by84) ∧ (type_of% @un84)) ∧ ((type_of% @ni84) ∧ ((type_of% @kt84) ∧ (type_of% @bo84))))) ∧ ((((type_of% @st84) ∧ (type_of% @ze84)) ∧ ((type_of% @nk85) ∧ ((type_of% @ag85) ∧ (type_of% @sz85)))) ∧ (((type_of% @by85) ∧ ((type_of% @un85) ∧ (type_of% @ni85))) ∧ ((type_of% @kt85) ∧ ((type_of% @bo85) ∧ (type_of% @st85)))))) ∧ (((((type_of% @ze85) ∧ (type_of% @nk86)) ∧ ((type_of% @ag86) ∧ ((type_of% @sz86) ∧ (type_of% @by86)))) ∧ (((type_of% @un86) ∧ (type_of% @ni86)) ∧ ((type_of% @kt86) ∧ ((type_of% @bo86) ∧ (type_of% @st86))))) ∧ ((((type_of% @ze86) ∧ (type_of% @ag87)) ∧ ((type_of% @sz87) ∧ ((type_of% @by87) ∧ (type_of% @un87)))) ∧ (((type_of% @ni87) ∧ ((type_of% @zo87) ∧ (type_of% @kt87))) ∧ ((type_of% @in87) ∧ ((type_of% @bo87) ∧ (type_of% @st87))))))) ∧ ((((((type_of% @ze87) ∧ (type_of% @nk88)) ∧ ((type_of% @ag88) ∧ ((type_of% @sz88) ∧ (type_of% @by88)))) ∧ (((type_of% @un88) ∧ (type_of% @ni88)) ∧ ((type_of% @kt88) ∧ ((type_of% @bo88) ∧ (type_of% @st88))))) ∧ ((((type_of% @ze88) ∧ (type_of% @nk89)) ∧ ((type_of% @ag89) ∧ ((type_of% @sz89) ∧ (type_of% @by89)))) ∧ (((type_of% @un89) ∧ ((type_of% @ni89) ∧ (type_of% @kt89))) ∧ ((type_of% @bo89) ∧ ((type_of% @st89) ∧ (type_of% @ze89)))))) ∧ (((((type_of% @nk90) ∧ (type_of% @ag90)) ∧ ((type_of% @sz90) ∧ ((type_of% @by90) ∧ (type_of% @un90)))) ∧ (((type_of% @ni90) ∧ (type_of% @kt90)) ∧ ((type_of% @bo90) ∧ ((type_of% @st90) ∧ (type_of% @ze90))))) ∧ ((((type_of% @nk91) ∧ (type_of% @ag91)) ∧ ((type_of% @sz91) ∧ ((type_of% @by91) ∧ (type_of% @un91)))) ∧ (((type_of% @ni91) ∧ ((type_of% @kt91) ∧ (type_of% @bo91))) ∧ ((type_of% @st91) ∧ ((type_of% @ze91) ∧ (type_of% @nk92)))))))) ∧ (((((((type_of% @ag92) ∧ (type_of% @sz92)) ∧ ((type_of% @by92) ∧ ((type_of% @un92) ∧ (type_of% @ni92)))) ∧ (((type_of% @kt92) ∧ (type_of% @bo92)) ∧ ((type_of% @st92) ∧ ((type_of% @ze92) ∧ (type_of% @nk93))))) ∧ ((((type_of% @ag93) ∧ (type_of% @sz93)) ∧ ((type_of% @by93) ∧ ((type_of% @un93) ∧ (type_of% @ni93)))) ∧ (((type_of% @kt93) ∧ ((type_of% @bo93) ∧ (type_of% @st93))) ∧ ((type_of% @ze93) ∧ ((type_of% @nk94) ∧ (type_of% @ag94)))))) ∧ (((((type_of% @sz94) ∧ (type_of% @by94)) ∧ ((type_of% @un94) ∧ ((type_of% @ni94) ∧ (type_of% @kt94)))) ∧ (((type_of% @bo94) ∧ (type_of% @st94)) ∧ ((type_of% @ze94) ∧ ((type_of% @ag95) ∧ (type_of% @sz95))))) ∧ ((((type_of% @by95) ∧ (type_of% @un95)) ∧ ((type_of% @ni95) ∧ ((type_of% @zo95) ∧ (type_of% @kt95)))) ∧ (((type_of% @in95) ∧ ((type_of% @bo95) ∧ (type_of% @st95))) ∧ ((type_of% @ze95) ∧ ((type_of% @nk96) ∧ (type_of% @ag96))))))) ∧ ((((((type_of% @sz96) ∧ (type_of% @by96)) ∧ ((type_of% @un96) ∧ ((type_of% @ni96) ∧ (type_of% @kt96)))) ∧ (((type_of% @bo96) ∧ (type_of% @st96)) ∧ ((type_of% @ze96) ∧ ((type_of% @nk97) ∧ (type_of% @ag97))))) ∧ ((((type_of% @sz97) ∧ (type_of% @by97)) ∧ ((type_of% @un97) ∧ ((type_of% @ni97) ∧ (type_of% @kt97)))) ∧ (((type_of% @bo97) ∧ ((type_of% @st97) ∧ (type_of% @ze97))) ∧ ((type_of% @nk98) ∧ ((type_of% @ag98) ∧ (type_of% @sz98)))))) ∧ (((((type_of% @by98) ∧ (type_of% @un98)) ∧ ((type_of% @ni98) ∧ ((type_of% @kt98) ∧ (type_of% @bo98)))) ∧ (((type_of% @st98) ∧ ((type_of% @ze98) ∧ (type_of% @nk99))) ∧ ((type_of% @ag99) ∧ ((type_of% @sz99) ∧ (type_of% @by99))))) ∧ ((((type_of% @un99) ∧ (type_of% @ni99)) ∧ ((type_of% @zo99) ∧ ((type_of% @kt99) ∧ (type_of% @bo99)))) ∧ (((type_of% @st99) ∧ ((type_of% @ze99) ∧ (type_of% @nk100))) ∧ ((type_of% @ag100) ∧ ((type_of% @sz100) ∧ (type_of% @by100)))))))))) ∧ (((((((((type_of% @un100) ∧ (type_of% @ni100)) ∧ ((type_of% @kt100) ∧ ((type_of% @bo100) ∧ (type_of% @st100)))) ∧ (((type_of% @ze100) ∧ (type_of% @nk101)) ∧ ((type_of% @ag101) ∧ ((type_of% @sz101) ∧ (type_of% @by101))))) ∧ ((((type_of% @un101) ∧ (type_of% @ni101)) ∧ ((type_of% @kt101) ∧ ((type_of% @bo101) ∧ (type_of% @st101)))) ∧ (((type_of% @ze101) ∧ ((type_of% @nk102) ∧ (type_of% @ag102))) ∧ ((type_of% @sz102) ∧ ((type_of% @by102) ∧ (type_of% @un102)))))) ∧ (((((type_of% @ni102) ∧ (type_of% @kt102)) ∧ ((type_of% @bo102) ∧ ((type_of% @st102) ∧ (type_of% @ze102)))) ∧ (((type_of% @nk103) ∧ (type_of% @ag103)) ∧ ((type_of% @sz103) ∧ ((type_of% @by103) ∧ (type_of% @un103))))) ∧ ((((type_of% @ni103) ∧ (type_of% @zo103)) ∧ ((type_of% @kt103) ∧ ((type_of% @bo103) ∧ (type_of% @st103)))) ∧ (((type_of% @ze103) ∧ ((type_of% @nk105) ∧ (type_of% @ag105))) ∧ ((type_of% @sz105) ∧ ((type_of% @by105) ∧ (type_of% @un105))))))) ∧ ((((((type_of% @ni105) ∧ (type_of% @kt105)) ∧ ((type_of% @bo105) ∧ ((type_of% @st105) ∧ (type_of% @ze105)))) ∧ (((type_of% @nk106) ∧ (type_of% @ag106)) ∧ ((type_of% @sz106) ∧ ((type_of% @by106) ∧ (type_of% @un106))))) ∧ ((((type_of% @ni106) ∧ (type_of% @kt106)) ∧ ((type_of% @bo106) ∧ ((type_of% @st106) ∧ (type_of% @ze106)))) ∧ (((type_of% @nk107) ∧ ((type_of% @ag107) ∧ (type_of% @sz107))) ∧ ((type_of% @by107) ∧ ((type_of% @un107) ∧ (type_of% @ni107)))))) ∧ (((((type_of% @kt107) ∧ (type_of% @bo107)) ∧ ((type_of% @st107) ∧ ((type_of% @ze107) ∧ (type_of% @ag108)))) ∧ (((type_of% @sz108) ∧ (type_of% @by108)) ∧ ((type_of% @un108) ∧ ((type_of% @ni108) ∧ (type_of% @kt108))))) ∧ ((((type_of% @bo108) ∧ (type_of% @st108)) ∧ ((type_of% @ze108) ∧ ((type_of% @fi108) ∧ (type_of% @fa108_0)))) ∧ (((type_of% @ft108_0) ∧ ((type_of% @fa108_1) ∧ (type_of% @ft108_1))) ∧ ((type_of% @fa108_2) ∧ ((type_of% @ft108_2) ∧ (type_of% @fa108_3)))))))) ∧ (((((((type_of% @ft108_3) ∧ (type_of% @ag109)) ∧ ((type_of% @sz109) ∧ ((type_of% @by109) ∧ (type_of% @un109)))) ∧ (((type_of% @ni109) ∧ (type_of% @kt109)) ∧ ((type_of% @bo109) ∧ ((type_of% @st109) ∧ (type_of% @ze109))))) ∧ ((((type_of% @fi109) ∧ (type_of% @fa109_0)) ∧ ((type_of% @ft109_0) ∧ ((type_of% @fa109_1) ∧ (type_of% @ft109_1)))) ∧ (((type_of% @fa109_2) ∧ ((type_of% @ft109_2) ∧ (type_of% @fa109_3))) ∧ ((type_of% @ft109_3) ∧ ((type_of% @ag111) ∧ (type_of% @sz111)))))) ∧ (((((type_of% @by111) ∧ (type_of% @un111)) ∧ ((type_of% @ni111) ∧ ((type_of% @kt111) ∧ (type_of% @bo111)))) ∧ (((type_of% @st111) ∧ (type_of% @ze111)) ∧ ((type_of% @fi111) ∧ ((type_of% @ft111_0) ∧ (type_of% @ag112))))) ∧ ((((type_of% @sz112) ∧ (type_of% @by112)) ∧ ((type_of% @un112) ∧ ((type_of% @ni112) ∧ (type_of% @kt112)))) ∧ (((type_of% @bo112) ∧ ((type_of% @st112) ∧ (type_of% @ze112))) ∧ ((type_of% @fi112) ∧ ((type_of% @ft112_0) ∧ (type_of% @ag113))))))) ∧ ((((((type_of% @sz113) ∧ (type_of% @by113)) ∧ ((type_of% @un113) ∧ ((type_of% @ni113) ∧ (type_of% @zo113)))) ∧ (((type_of% @kt113) ∧ (type_of% @in113)) ∧ ((type_of% @bo113) ∧ ((type_of% @st113) ∧ (type_of% @ze113))))) ∧ ((((type_of% @ag114) ∧ (type_of% @sz114)) ∧ ((type_of% @by114) ∧ ((type_of% @un114) ∧ (type_of% @ni114)))) ∧ (((type_of% @zo114) ∧ ((type_of% @kt114) ∧ (type_of% @in114))) ∧ ((type_of% @bo114) ∧ ((type_of% @st114) ∧ (type_of% @ze114)))))) ∧ (((((type_of% @nk115) ∧ (type_of% @ag115)) ∧ ((type_of% @sz115) ∧ ((type_of% @by115) ∧ (type_of% @un115)))) ∧ (((type_of% @ni115) ∧ ((type_of% @kt115) ∧ (type_of% @bo115))) ∧ ((type_of% @st115) ∧ ((type_of% @ze115) ∧ (type_of% @nk116))))) ∧ ((((type_of% @ag116) ∧ (type_of% @sz116)) ∧ ((type_of% @by116) ∧ ((type_of% @un116) ∧ (type_of% @ni116)))) ∧ (((type_of% @zo116) ∧ ((type_of% @kt116) ∧ (type_of% @bo116))) ∧ ((type_of% @st116) ∧ ((type_of% @ze116) ∧ (type_of% @ag117))))))))) ∧ ((((((((type_of% @sz117) ∧ (type_of% @by117)) ∧ ((type_of% @un117) ∧ ((type_of% @ni117) ∧ (type_of% @zo117)))) ∧ (((type_of% @kt117) ∧ (type_of% @in117)) ∧ ((type_of% @bo117) ∧ ((type_of% @st117) ∧ (type_of% @ze117))))) ∧ ((((type_of% @ag118) ∧ (type_of% @sz118)) ∧ ((type_of% @by118) ∧ ((type_of% @un118) ∧ (type_of% @ni118)))) ∧ (((type_of% @zo118) ∧ ((type_of% @kt118) ∧ (type_of% @in118))) ∧ ((type_of% @bo118) ∧ ((type_of% @st118) ∧ (type_of% @ze118)))))) ∧ (((((type_of% @ag119) ∧ (type_of% @sz119)) ∧ ((type_of% @by119) ∧ ((type_of% @un119) ∧ (type_of% @ni119)))) ∧ (((type_of% @kt119) ∧ (type_of% @bo119)) ∧ ((type_of% @st119) ∧ ((type_of% @ze119) ∧ (type_of% @fi119))))) ∧ ((((type_of% @fa119_0) ∧ (type_of% @ft119_0)) ∧ ((type_of% @fa119_1) ∧ ((type_of% @ft119_1) ∧ (type_of% @fa119_2)))) ∧ (((type_of% @ft119_2) ∧ ((type_of% @fa119_3) ∧ (type_of% @ft119_3))) ∧ ((type_of% @fa119_4) ∧ ((type_of% @ft119_4) ∧ (type_of% @fa119_5))))))) ∧ ((((((type_of% @ft119_5) ∧ (type_of% @fa119_6)) ∧ ((type_of% @ft119_6) ∧ ((type_of% @fa119_7) ∧ (type_of% @ft119_7)))) ∧ (((type_of% @fa119_8) ∧ (type_of% @ft119_8)) ∧ ((type_of% @fa119_9) ∧ ((type_of% @ft119_9) ∧ (type_of% @fa119_10))))) ∧ ((((type_of% @ft119_10) ∧ (type_of% @ag120)) ∧ ((type_of% @sz120) ∧ ((type_of% @by120) ∧ (type_of% @un120)))) ∧ (((type_of% @ni120) ∧ ((type_of% @kt120) ∧ (type_of% @bo120))) ∧ ((type_of% @st120) ∧ ((type_of% @ze120) ∧ (type_of% @fi120)))))) ∧ (((((type_of% @fa120_0) ∧ (type_of% @ft120_0)) ∧ ((type_of% @fa120_1) ∧ ((type_of% @ft120_1) ∧ (type_of% @fa120_2)))) ∧ (((type_of% @ft120_2) ∧ (type_of% @fa120_3)) ∧ ((type_of% @ft120_3) ∧ ((type_of% @fa120_4) ∧ (type_of% @ft120_4))))) ∧ ((((type_of% @fa120_5) ∧ (type_of% @ft120_5)) ∧ ((type_of% @fa120_6) ∧ ((type_of% @ft120_6) ∧ (type_of% @fa120_7)))) ∧ (((type_of% @ft120_7) ∧ ((type_of% @fa120_8) ∧ (type_of% @ft120_8))) ∧ ((type_of% @fa120_9) ∧ ((type_of% @ft120_9) ∧ (type_of% @fa120_10)))))))) ∧ (((((((type_of% @ft120_10) ∧ (type_of% @ag121)) ∧ ((type_of% @sz121) ∧ ((type_of% @by121) ∧ (type_of% @un121)))) ∧ (((type_of% @ni121) ∧ (type_of% @kt121)) ∧ ((type_of% @bo121) ∧ ((type_of% @st121) ∧ (type_of% @ze121))))) ∧ ((((type_of% @fo) ∧ (type_of% @ca3)) ∧ ((type_of% @ca4) ∧ ((type_of% @ca5) ∧ (type_of% @ca6)))) ∧ (((type_of% @ca7) ∧ ((type_of% @ca8) ∧ (type_of% @ca9))) ∧ ((type_of% @ca10) ∧ ((type_of% @ca11) ∧ (type_of% @ca12)))))) ∧ (((((type_of% @ca13) ∧ (type_of% @ca14)) ∧ ((type_of% @ca15) ∧ ((type_of% @ca16) ∧ (type_of% @ca17)))) ∧ (((type_of% @ca18) ∧ (type_of% @ca19)) ∧ ((type_of% @ca20) ∧ ((type_of% @ca21) ∧ (type_of% @ca22))))) ∧ ((((type_of% @ca23) ∧ (type_of% @ca24)) ∧ ((type_of% @ca25) ∧ ((type_of% @ca26) ∧ (type_of% @ca27)))) ∧ (((type_of% @ca28) ∧ ((type_of% @ca29) ∧ (type_of% @ca30))) ∧ ((type_of% @ca31) ∧ ((type_of% @ca32) ∧ (type_of% @ca33))))))) ∧ ((((((type_of% @ca34) ∧ (type_of% @ca35)) ∧ ((type_of% @ca36) ∧ ((type_of% @ca37) ∧ (type_of% @ca38)))) ∧ (((type_of% @ca39) ∧ (type_of% @ca40)) ∧ ((type_of% @ca41) ∧ ((type_of% @ca42) ∧ (type_of% @ca43))))) ∧ ((((type_of% @ca44) ∧ (type_of% @ca45)) ∧ ((type_of% @ca46) ∧ ((type_of% @ca47) ∧ (type_of% @ca48)))) ∧ (((type_of% @ca49) ∧ ((type_of% @ca50) ∧ (type_of% @ca51))) ∧ ((type_of% @ca52) ∧ ((type_of% @ca53) ∧ (type_of% @ca54)))))) ∧ (((((type_of% @ca55) ∧ (type_of% @ca56)) ∧ ((type_of% @ca57) ∧ ((type_of% @ca58) ∧ (type_of% @ca59)))) ∧ (((type_of% @ca60) ∧ ((type_of% @ca61) ∧ (type_of% @ca62))) ∧ ((type_of% @ca63) ∧ ((type_of% @ca64) ∧ (type_of% @ca65))))) ∧ ((((type_of% @ca66) ∧ (type_of% @ca67)) ∧ ((type_of% @ca68) ∧ ((type_of% @ca69) ∧ (type_of% @ca70)))) ∧ (((type_of% @ca71) ∧ ((type_of% @ca72) ∧ (type_of% @ca73))) ∧ ((type_of% @ca74) ∧ ((type_of% @ca75) ∧ (type_of% @ca76))))))))))) := ⟨⟨⟨⟨⟨⟨⟨⟨⟨⟨@nk1, @ag1⟩, ⟨@sz1, ⟨@by1, @un1⟩⟩⟩, ⟨⟨@ni1, @kt1⟩, ⟨@bo1, ⟨@st1, @ze1⟩⟩⟩⟩, ⟨⟨⟨@ag2, @sz2⟩, ⟨@by2, ⟨@un2, @ni2⟩⟩⟩, ⟨⟨@zo2, ⟨@kt2, @in2⟩⟩, ⟨@bo2, ⟨@st2, @ze2⟩⟩⟩⟩⟩, ⟨⟨⟨⟨@ag3, @sz3⟩, ⟨@by3, ⟨@un3, @ni3⟩⟩⟩, ⟨⟨@zo3, @kt3⟩, ⟨@in3, ⟨@bo3, @st3⟩⟩⟩⟩, ⟨⟨⟨@ze3, @ag4⟩, ⟨@sz4, ⟨@by4, @un4⟩⟩⟩, ⟨⟨@ni4, ⟨@zo4, @kt4⟩⟩, ⟨@bo4, ⟨@st4, @ze4⟩⟩⟩⟩⟩⟩, ⟨⟨⟨⟨⟨@ag5, @sz5⟩, ⟨@by5, ⟨@un5, @ni5⟩⟩⟩, ⟨⟨@zo5, @kt5⟩, ⟨@in5, ⟨@bo5, @st5⟩⟩⟩⟩, ⟨⟨⟨@ze5, @ag6⟩, ⟨@sz6, ⟨@by6, @un6⟩⟩⟩, ⟨⟨@ni6, ⟨@zo6, @kt6⟩⟩, ⟨@in6, ⟨@bo6, @st6⟩⟩⟩⟩⟩, ⟨⟨⟨⟨@ze6, @ag7⟩, ⟨@sz7, ⟨@by7, @un7⟩⟩⟩, ⟨⟨@ni7, @kt7⟩, ⟨@bo7, ⟨@st7, @ze7⟩⟩⟩⟩, ⟨⟨⟨@fi7, @fa7_0⟩, ⟨@ft7_0, ⟨@fa7_1, @ft7_1⟩⟩⟩, ⟨⟨@fa7_2, ⟨@ft7_2, @fa7_3⟩⟩, ⟨@ft7_3, ⟨@ag8, @sz8⟩⟩⟩⟩⟩⟩⟩, ⟨⟨⟨⟨⟨⟨@by8, @un8⟩, ⟨@ni8, ⟨@kt8, @bo8⟩⟩⟩, ⟨⟨@st8, @ze8⟩, ⟨@fi8, ⟨@fa8_0, @ft8_0⟩⟩⟩⟩, ⟨⟨⟨@fa8_1, @ft8_1⟩, ⟨@fa8_2, ⟨@ft8_2, @fa8_3⟩⟩⟩, ⟨⟨@ft8_3, ⟨@ag9, @sz9⟩⟩, ⟨@by9, ⟨@un9, @ni9⟩⟩⟩⟩⟩, ⟨⟨⟨⟨@zo9, @kt9⟩, ⟨@bo9, ⟨@st9, @ze9⟩⟩⟩, ⟨⟨@ag10, @sz10⟩, ⟨@by10, ⟨@un10, @ni10⟩⟩⟩⟩, ⟨⟨⟨@zo10, @kt10⟩, ⟨@bo10, ⟨@st10, @ze10⟩⟩⟩, ⟨⟨@ag11, ⟨@sz11, @by11⟩⟩, ⟨@un11, ⟨@ni11, @zo11⟩⟩⟩⟩⟩⟩, ⟨⟨⟨⟨⟨@kt11, @bo11⟩, ⟨@st11, ⟨@ze11, @ag12⟩⟩⟩, ⟨⟨@sz12, @by12⟩, ⟨@un12, ⟨@ni12, @zo12⟩⟩⟩⟩, ⟨⟨⟨@kt12, @in12⟩, ⟨@bo12, ⟨@st12, @ze12⟩⟩⟩, ⟨⟨@ag13, ⟨@sz13, @by13⟩⟩, ⟨@un13, ⟨@ni13, @kt13⟩⟩⟩⟩⟩, ⟨⟨⟨⟨@bo13, @st13⟩, ⟨@ze13, ⟨@fi13, @fa13_0⟩⟩⟩, ⟨⟨@ft13_0, @fa13_1⟩, ⟨@ft13_1, ⟨@ag14, @sz14⟩⟩⟩⟩, ⟨⟨⟨@by14, @un14⟩, ⟨@ni14, ⟨@kt14, @bo14⟩⟩⟩, ⟨⟨@st14, ⟨@ze14, @fi14⟩⟩, ⟨@fa14_0, ⟨@ft14_0, @fa14_1⟩⟩⟩⟩⟩⟩⟩⟩, ⟨⟨⟨⟨⟨⟨⟨@ft14_1, @nk15⟩, ⟨@ag15, ⟨@sz15, @by15⟩⟩⟩, ⟨⟨@un15, @ni15⟩, ⟨@zo15, ⟨@kt15, @bo15⟩⟩⟩⟩, ⟨⟨⟨@st15, @ze15⟩, ⟨@nk16, ⟨@ag16, @sz16⟩⟩⟩, ⟨⟨@by16, ⟨@un16, @ni16⟩⟩, ⟨@zo16, ⟨@kt16, @bo16⟩⟩⟩⟩⟩, ⟨⟨⟨⟨@st16, @ze16⟩, ⟨@nk17, ⟨@ag17, @sz17⟩⟩⟩, ⟨⟨@by17, @un17⟩, ⟨@ni17, ⟨@zo17, @kt17⟩⟩⟩⟩, ⟨⟨⟨@bo17, @st17⟩, ⟨@ze17, ⟨@ag18, @sz18⟩⟩⟩, ⟨⟨@by18, ⟨@un18, @ni18⟩⟩, ⟨@kt18, ⟨@bo18, @st18⟩⟩⟩⟩⟩⟩, ⟨⟨⟨⟨⟨@ze18, @fi18⟩, ⟨@fa18_0, ⟨@ft18_0, @ag19⟩⟩⟩, ⟨⟨@sz19, @by19⟩, ⟨@un19, ⟨@ni19, @kt19⟩⟩⟩⟩, ⟨⟨⟨@bo19, @st19⟩, ⟨@ze19, ⟨@fi19, @fa19_0⟩⟩⟩, ⟨⟨@ft19_0, ⟨@nk20, @ag20⟩⟩, ⟨@sz20, ⟨@by20, @un20⟩⟩⟩⟩⟩, ⟨⟨⟨⟨@ni20, @kt20⟩, ⟨@bo20, ⟨@st20, @ze20⟩⟩⟩, ⟨⟨@ag21, @sz21⟩, ⟨@by21, ⟨@un21, @ni21⟩⟩⟩⟩, ⟨⟨⟨@zo21, @kt21⟩, ⟨@in21, ⟨@bo21, @st21⟩⟩⟩, ⟨⟨@ze21, ⟨@nk22, @ag22⟩⟩, ⟨@sz22, ⟨@by22, @un22⟩⟩⟩⟩⟩⟩⟩, ⟨⟨⟨⟨⟨⟨@ni22, @zo22⟩, ⟨@ke22, ⟨@kt22, @el22⟩⟩⟩, ⟨⟨@bo22, @st22⟩, ⟨@ze22, ⟨@nk23, @ag23⟩⟩⟩⟩, ⟨⟨⟨@sz23, @by23⟩, ⟨@un23, ⟨@ni23, @kt23⟩⟩⟩, ⟨⟨@bo23, ⟨@st23, @ze23⟩⟩, ⟨@nk24, ⟨@ag24, @sz24⟩⟩⟩⟩⟩, ⟨⟨⟨⟨@by24, @un24⟩, ⟨@ni24, ⟨@zo24, @kt24⟩⟩⟩, ⟨⟨@bo24, @st24⟩, ⟨@ze24, ⟨@ag25, @sz25⟩⟩⟩⟩, ⟨⟨⟨@by25, @un25⟩, ⟨@ni25, ⟨@zo25, @kt25⟩⟩⟩, ⟨⟨@in25, ⟨@bo25, @st25⟩⟩, ⟨@ze25, ⟨@nk27, @ag27⟩⟩⟩⟩⟩⟩, ⟨⟨⟨⟨⟨@sz27, @by27⟩, ⟨@un27, ⟨@ni27, @kt27⟩⟩⟩, ⟨⟨@bo27, @st27⟩, ⟨@ze27, ⟨@nk29, @ag29⟩⟩⟩⟩, ⟨⟨⟨@sz29, @by29⟩, ⟨@un29, ⟨@ni29, @kt29⟩⟩⟩, ⟨⟨@bo29, ⟨@st29, @ze29⟩⟩, ⟨@nk30, ⟨@ag30, @sz30⟩⟩⟩⟩⟩, ⟨⟨⟨⟨@by30, @un30⟩, ⟨@ni30, ⟨@kt30, @bo30⟩⟩⟩, ⟨⟨@st30, ⟨@ze30, @nk31⟩⟩, ⟨@ag31, ⟨@sz31, @by31⟩⟩⟩⟩, ⟨⟨⟨@un31, @ni31⟩, ⟨@kt31, ⟨@bo31, @st31⟩⟩⟩, ⟨⟨@ze31, ⟨@nk32, @ag32⟩⟩, ⟨@sz32, ⟨@by32, @un32⟩⟩⟩⟩⟩⟩⟩⟩⟩, ⟨⟨⟨⟨⟨⟨⟨⟨@ni32, @kt32⟩, ⟨@bo32, ⟨@st32, @ze32⟩⟩⟩, ⟨⟨@nk34, @ag34⟩, ⟨@sz34, ⟨@by34, @un34⟩⟩⟩⟩, ⟨⟨⟨@ni34, @kt34⟩, ⟨@bo34, ⟨@st34, @ze34⟩⟩⟩, ⟨⟨@nk35, ⟨@ag35, @sz35⟩⟩, ⟨@by35, ⟨@un35, @ni35⟩⟩⟩⟩⟩, ⟨⟨⟨⟨@kt35, @bo35⟩, ⟨@st35, ⟨@ze35, @nk36⟩⟩⟩, ⟨⟨@ag36, @sz36⟩, ⟨@by36, ⟨@un36, @ni36⟩⟩⟩⟩, ⟨⟨⟨@kt36, @bo36⟩, ⟨@st36, ⟨@ze36, @nk37⟩⟩⟩, ⟨⟨@ag37, ⟨@sz37, @by37⟩⟩, ⟨@un37, ⟨@ni37, @kt37⟩⟩⟩⟩⟩⟩, ⟨⟨⟨⟨⟨@bo37, @st37⟩, ⟨@ze37, ⟨@nk38, @ag38⟩⟩⟩, ⟨⟨@sz38, @by38⟩, ⟨@un38, ⟨@ni38, @kt38⟩⟩⟩⟩, ⟨⟨⟨@bo38, @st38⟩, ⟨@ze38, ⟨@nk39, @ag39⟩⟩⟩, ⟨⟨@sz39, ⟨@by39, @un39⟩⟩, ⟨@ni39, ⟨@kt39, @bo39⟩⟩⟩⟩⟩, ⟨⟨⟨⟨@st39, @ze39⟩, ⟨@nk40, ⟨@ag40, @sz40⟩⟩⟩, ⟨⟨@by40, @un40⟩, ⟨@ni40, ⟨@kt40, @bo40⟩⟩⟩⟩, ⟨⟨⟨@st40, @ze40⟩, ⟨@nk41, ⟨@ag41, @sz41⟩⟩⟩, ⟨⟨@by41, ⟨@un41, @ni41⟩⟩, ⟨@zo41, ⟨@ke41, @kt41⟩⟩⟩⟩⟩⟩⟩, ⟨⟨⟨⟨⟨⟨@el41, @bo41⟩, ⟨@st41, ⟨@ze41, @nk43⟩⟩⟩, ⟨⟨@ag43, @sz43⟩, ⟨@by43, ⟨@un43, @ni43⟩⟩⟩⟩, ⟨⟨⟨@kt43, @bo43⟩, ⟨@st43, ⟨@ze43, @nk44⟩⟩⟩, ⟨⟨@ag44, ⟨@sz44, @by44⟩⟩, ⟨@un44, ⟨@ni44, @kt44⟩⟩⟩⟩⟩, ⟨⟨⟨⟨@bo44, @st44⟩, ⟨@ze44, ⟨@nk46, @ag46⟩⟩⟩, ⟨⟨@sz46, @by46⟩, ⟨@un46, ⟨@ni46, @kt46⟩⟩⟩⟩, ⟨⟨⟨@bo46, @st46⟩, ⟨@ze46, ⟨@nk47, @ag47⟩⟩⟩, ⟨⟨@sz47, ⟨@by47, @un47⟩⟩, ⟨@ni47, ⟨@kt47, @bo47⟩⟩⟩⟩⟩⟩, ⟨⟨⟨⟨⟨@st47, @ze47⟩, ⟨@nk48, ⟨@ag48, @sz48⟩⟩⟩, ⟨⟨@by48, @un48⟩, ⟨@ni48, ⟨@kt48, @bo48⟩⟩⟩⟩, ⟨⟨⟨@st48, @ze48⟩, ⟨@nk49, ⟨@ag49, @sz49⟩⟩⟩, ⟨⟨@by49, ⟨@un49, @ni49⟩⟩, ⟨@kt49, ⟨@bo49, @st49⟩⟩⟩⟩⟩, ⟨⟨⟨⟨@ze49, @nk50⟩, ⟨@ag50, ⟨@sz50, @by50⟩⟩⟩, ⟨⟨@un50, ⟨@ni50, @kt50⟩⟩, ⟨@bo50, ⟨@st50, @ze50⟩⟩⟩⟩, ⟨⟨⟨@nk51, @ag51⟩, ⟨@sz51, ⟨@by51, @un51⟩⟩⟩, ⟨⟨@ni51, ⟨@kt51, @bo51⟩⟩, ⟨@st51, ⟨@ze51, @nk52⟩⟩⟩⟩⟩⟩⟩⟩, ⟨⟨⟨⟨⟨⟨⟨@ag52, @sz52⟩, ⟨@by52, ⟨@un52, @ni52⟩⟩⟩, ⟨⟨@kt52, @bo52⟩, ⟨@st52, ⟨@ze52, @nk53⟩⟩⟩⟩, ⟨⟨⟨@ag53, @sz53⟩, ⟨@by53, ⟨@un53, @ni53⟩⟩⟩, ⟨⟨@kt53, ⟨@bo53, @st53⟩⟩, ⟨@ze53, ⟨@nk54, @ag54⟩⟩⟩⟩⟩, ⟨⟨⟨⟨@sz54, @by54⟩, ⟨@un54, ⟨@ni54, @zo54⟩⟩⟩, ⟨⟨@ke54, @kt54⟩, ⟨@el54, ⟨@bo54, @st54⟩⟩⟩⟩, ⟨⟨⟨@ze54, @nk55⟩, ⟨@ag55, ⟨@sz55, @by55⟩⟩⟩, ⟨⟨@un55, ⟨@ni55, @zo55⟩⟩, ⟨@ke55, ⟨@kt55, @el55⟩⟩⟩⟩⟩⟩, ⟨⟨⟨⟨⟨@bo55, @st55⟩, ⟨@ze55, ⟨@ag56, @sz56⟩⟩⟩, ⟨⟨@by56, @un56⟩, ⟨@ni56, ⟨@kt56, @bo56⟩⟩⟩⟩, ⟨⟨⟨@st56, @ze56⟩, ⟨@fi56, ⟨@fa56_0, @ft56_0⟩⟩⟩, ⟨⟨@fa56_1, ⟨@ft56_1, @fa56_2⟩⟩, ⟨@ft56_2, ⟨@fa56_3, @ft56_3⟩⟩⟩⟩⟩, ⟨⟨⟨⟨@ag57, @sz57⟩, ⟨@by57, ⟨@un57, @ni57⟩⟩⟩, ⟨⟨@kt57, @bo57⟩, ⟨@st57, ⟨@ze57, @fi57⟩⟩⟩⟩, ⟨⟨⟨@fa57_0, @ft57_0⟩, ⟨@fa57_1, ⟨@ft57_1, @fa57_2⟩⟩⟩, ⟨⟨@ft57_2, ⟨@fa57_3, @ft57_3⟩⟩, ⟨@nk58, ⟨@ag58, @sz58⟩⟩⟩⟩⟩⟩⟩, ⟨⟨⟨⟨⟨⟨@by58, @un58⟩, ⟨@ni58, ⟨@kt58, @bo58⟩⟩⟩, ⟨⟨@st58, @ze58⟩, ⟨@nk59, ⟨@ag59, @sz59⟩⟩⟩⟩, ⟨⟨⟨@by59, @un59⟩, ⟨@ni59, ⟨@kt59, @bo59⟩⟩⟩, ⟨⟨@st59, ⟨@ze59, @nk60⟩⟩, ⟨@ag60, ⟨@sz60, @by60⟩⟩⟩⟩⟩, ⟨⟨⟨⟨@un60, @ni60⟩, ⟨@kt60, ⟨@bo60, @st60⟩⟩⟩, ⟨⟨@ze60, @nk61⟩, ⟨@ag61, ⟨@sz61, @by61⟩⟩⟩⟩, ⟨⟨⟨@un61, @ni61⟩, ⟨@kt61, ⟨@bo61, @st61⟩⟩⟩, ⟨⟨@ze61, ⟨@ag62, @sz62⟩⟩, ⟨@by62, ⟨@un62, @ni62⟩⟩⟩⟩⟩⟩, ⟨⟨⟨⟨⟨@zo62, @kt62⟩, ⟨@in62, ⟨@bo62, @st62⟩⟩⟩, ⟨⟨@ze62, @nk63⟩, ⟨@ag63, ⟨@sz63, @by63⟩⟩⟩⟩, ⟨⟨⟨@un63, @ni63⟩, ⟨@kt63, ⟨@bo63, @st63⟩⟩⟩, ⟨⟨@ze63, ⟨@nk64, @ag64⟩⟩, ⟨@sz64, ⟨@by64, @un64⟩⟩⟩⟩⟩, ⟨⟨⟨⟨@ni64, @zo64⟩, ⟨@ke64, ⟨@kt64, @el64⟩⟩⟩, ⟨⟨@bo64, ⟨@st64, @ze64⟩⟩, ⟨@nk65, ⟨@ag65, @sz65⟩⟩⟩⟩, ⟨⟨⟨@by65, @un65⟩, ⟨@ni65, ⟨@kt65, @bo65⟩⟩⟩, ⟨⟨@st65, ⟨@ze65, @ag66⟩⟩, ⟨@sz66, ⟨@by66, @un66⟩⟩⟩⟩⟩⟩⟩⟩⟩⟩, ⟨⟨⟨⟨⟨⟨⟨⟨⟨@ni66, @kt66⟩, ⟨@bo66, ⟨@st66, @ze66⟩⟩⟩, ⟨⟨@fi66, @fa66_0⟩, ⟨@ft66_0, ⟨@fa66_1, @ft66_1⟩⟩⟩⟩, ⟨⟨⟨@fa66_2, @ft66_2⟩, ⟨@ag67, ⟨@sz67, @by67⟩⟩⟩, ⟨⟨@un67, ⟨@ni67, @kt67⟩⟩, ⟨@bo67, ⟨@st67, @ze67⟩⟩⟩⟩⟩, ⟨⟨⟨⟨@fi67, @fa67_0⟩, ⟨@ft67_0, ⟨@fa67_1, @ft67_1⟩⟩⟩, ⟨⟨@fa67_2, @ft67_2⟩, ⟨@nk69, ⟨@ag69, @sz69⟩⟩⟩⟩, ⟨⟨⟨@by69, @un69⟩, ⟨@ni69, ⟨@kt69, @bo69⟩⟩⟩, ⟨⟨@st69, ⟨@ze69, @nk70⟩⟩, ⟨@ag70, ⟨@sz70, @by70⟩⟩⟩⟩⟩⟩, ⟨⟨⟨⟨⟨@un70, @ni70⟩, ⟨@kt70, ⟨@bo70, @st70⟩⟩⟩, ⟨⟨@ze70, @nk71⟩, ⟨@ag71, ⟨@sz71, @by71⟩⟩⟩⟩, ⟨⟨⟨@un71, @ni71⟩, ⟨@kt71, ⟨@bo71, @st71⟩⟩⟩, ⟨⟨@ze71, ⟨@nk72, @ag72⟩⟩, ⟨@sz72, ⟨@by72, @un72⟩⟩⟩⟩⟩, ⟨⟨⟨⟨@ni72, @kt72⟩, ⟨@bo72, ⟨@st72, @ze72⟩⟩⟩, ⟨⟨@ag73, @sz73⟩, ⟨@by73, ⟨@un73, @ni73⟩⟩⟩⟩, ⟨⟨⟨@zo73, @kt73⟩, ⟨@in73, ⟨@bo73, @st73⟩⟩⟩, ⟨⟨@ze73, ⟨@nk74, @ag74⟩⟩, ⟨@sz74, ⟨@by74, @un74⟩⟩⟩⟩⟩⟩⟩, ⟨⟨⟨⟨⟨⟨@ni74, @kt74⟩, ⟨@bo74, ⟨@st74, @ze74⟩⟩⟩, ⟨⟨@nk75, @ag75⟩, ⟨@sz75, ⟨@by75, @un75⟩⟩⟩⟩, ⟨⟨⟨@ni75, @kt75⟩, ⟨@bo75, ⟨@st75, @ze75⟩⟩⟩, ⟨⟨@nk76, ⟨@ag76, @sz76⟩⟩, ⟨@by76, ⟨@un76, @ni76⟩⟩⟩⟩⟩, ⟨⟨⟨⟨@kt76, @bo76⟩, ⟨@st76, ⟨@ze76, @nk77⟩⟩⟩, ⟨⟨@ag77, @sz77⟩, ⟨@by77, ⟨@un77, @ni77⟩⟩⟩⟩, ⟨⟨⟨@kt77, @bo77⟩, ⟨@st77, ⟨@ze77, @nk78⟩⟩⟩, ⟨⟨@ag78, ⟨@sz78, @by78⟩⟩, ⟨@un78, ⟨@ni78, @kt78⟩⟩⟩⟩⟩⟩, ⟨⟨⟨⟨⟨@bo78, @st78⟩, ⟨@ze78, ⟨@nk79, @ag79⟩⟩⟩, ⟨⟨@sz79, @by79⟩, ⟨@un79, ⟨@ni79, @kt79⟩⟩⟩⟩, ⟨⟨⟨@bo79, @st79⟩, ⟨@ze79, ⟨@nk80, @ag80⟩⟩⟩, ⟨⟨@sz80, ⟨@by80, @un80⟩⟩, ⟨@ni80, ⟨@kt80, @bo80⟩⟩⟩⟩⟩, ⟨⟨⟨⟨@st80, @ze80⟩, ⟨@ag81, ⟨@sz81, @by81⟩⟩⟩, ⟨⟨@un81, @ni81⟩, ⟨@zo81, ⟨@kt81, @in81⟩⟩⟩⟩, ⟨⟨⟨@bo81, @st81⟩, ⟨@ze81, ⟨@nk83, @ag83⟩⟩⟩, ⟨⟨@sz83, ⟨@by83, @un83⟩⟩, ⟨@ni83, ⟨@kt83, @bo83⟩⟩⟩⟩⟩⟩⟩⟩, ⟨⟨⟨⟨⟨⟨⟨@st83, @ze83⟩, ⟨@nk84, ⟨@ag84, @sz84⟩⟩⟩, ⟨⟨@by84, @un84⟩, ⟨@ni84, ⟨@kt84, @bo84⟩⟩⟩⟩, ⟨⟨⟨@st84, @ze84⟩, ⟨@nk85, ⟨@ag85, @sz85⟩⟩⟩, ⟨⟨@by85, ⟨@un85, @ni85⟩⟩, ⟨@kt85, ⟨@bo85, @st85⟩⟩⟩⟩⟩, ⟨⟨⟨⟨@ze85, @nk86⟩, ⟨@ag86, ⟨@sz86, @by86⟩⟩⟩, ⟨⟨@un86, @ni86⟩, ⟨@kt86, ⟨@bo86, @st86⟩⟩⟩⟩, ⟨⟨⟨@ze86, @ag87⟩, ⟨@sz87, ⟨@by87, @un87⟩⟩⟩, ⟨⟨@ni87, ⟨@zo87, @kt87⟩⟩, ⟨@in87, ⟨@bo87, @st87⟩⟩⟩⟩⟩⟩, ⟨⟨⟨⟨⟨@ze87, @nk88⟩, ⟨@ag88, ⟨@sz88, @by88⟩⟩⟩, ⟨⟨@un88, @ni88⟩, ⟨@kt88, ⟨@bo88, @st88⟩⟩⟩⟩, ⟨⟨⟨@ze88, @nk89⟩, ⟨@ag89, ⟨@sz89, @by89⟩⟩⟩, ⟨⟨@un89, ⟨@ni89, @kt89⟩⟩, ⟨@bo89, ⟨@st89, @ze89⟩⟩⟩⟩⟩, ⟨⟨⟨⟨@nk90, @ag90⟩, ⟨@sz90, ⟨@by90, @un90⟩⟩⟩, ⟨⟨@ni90, @kt90⟩, ⟨@bo90, ⟨@st90, @ze90⟩⟩⟩⟩, ⟨⟨⟨@nk91, @ag91⟩, ⟨@sz91, ⟨@by91, @un91⟩⟩⟩, ⟨⟨@ni91, ⟨@kt91, @bo91⟩⟩, ⟨@st91, ⟨@ze91, @nk92⟩⟩⟩⟩⟩⟩⟩, ⟨⟨⟨⟨⟨⟨@ag92, @sz92⟩, ⟨@by92, ⟨@un92, @ni92⟩⟩⟩, ⟨⟨@kt92, @bo92⟩, ⟨@st92, ⟨@ze92, @nk93⟩⟩⟩⟩, ⟨⟨⟨@ag93, @sz93⟩, ⟨@by93, ⟨@un93, @ni93⟩⟩⟩, ⟨⟨@kt93, ⟨@bo93, @st93⟩⟩, ⟨@ze93, ⟨@nk94, @ag94⟩⟩⟩⟩⟩, ⟨⟨⟨⟨@sz94, @by94⟩, ⟨@un94, ⟨@ni94, @kt94⟩⟩⟩, ⟨⟨@bo94, @st94⟩, ⟨@ze94, ⟨@ag95, @sz95⟩⟩⟩⟩, ⟨⟨⟨@by95, @un95⟩, ⟨@ni95, ⟨@zo95, @kt95⟩⟩⟩, ⟨⟨@in95, ⟨@bo95, @st95⟩⟩, ⟨@ze95, ⟨@nk96, @ag96⟩⟩⟩⟩⟩⟩, ⟨⟨⟨⟨⟨@sz96, @by96⟩, ⟨@un96, ⟨@ni96, @kt96⟩⟩⟩, ⟨⟨@bo96, @st96⟩, ⟨@ze96, ⟨@nk97, @ag97⟩⟩⟩⟩, ⟨⟨⟨@sz97, @by97⟩, ⟨@un97, ⟨@ni97, @kt97⟩⟩⟩, ⟨⟨@bo97, ⟨@st97, @ze97⟩⟩, ⟨@nk98, ⟨@ag98, @sz98⟩⟩⟩⟩⟩, ⟨⟨⟨⟨@by98, @un98⟩, ⟨@ni98, ⟨@kt98, @bo98⟩⟩⟩, ⟨⟨@st98, ⟨@ze98, @nk99⟩⟩, ⟨@ag99, ⟨@sz99, @by99⟩⟩⟩⟩, ⟨⟨⟨@un99, @ni99⟩, ⟨@zo99, ⟨@kt99, @bo99⟩⟩⟩, ⟨⟨@st99, ⟨@ze99, @nk100⟩⟩, ⟨@ag100, ⟨@sz100, @by100⟩⟩⟩⟩⟩⟩⟩⟩⟩, ⟨⟨⟨⟨⟨⟨⟨⟨@un100, @ni100⟩, ⟨@kt100, ⟨@bo100, @st100⟩⟩⟩, ⟨⟨@ze100, @nk101⟩, ⟨@ag101, ⟨@sz101, @by101⟩⟩⟩⟩, ⟨⟨⟨@un101, @ni101⟩, ⟨@kt101, ⟨@bo101, @st101⟩⟩⟩, ⟨⟨@ze101, ⟨@nk102, @ag102⟩⟩, ⟨@sz102, ⟨@by102, @un102⟩⟩⟩⟩⟩, ⟨⟨⟨⟨@ni102, @kt102⟩, ⟨@bo102, ⟨@st102, @ze102⟩⟩⟩, ⟨⟨@nk103, @ag103⟩, ⟨@sz103, ⟨@by103, @un103⟩⟩⟩⟩, ⟨⟨⟨@ni103, @zo103⟩, ⟨@kt103, ⟨@bo103, @st103⟩⟩⟩, ⟨⟨@ze103, ⟨@nk105, @ag105⟩⟩, ⟨@sz105, ⟨@by105, @un105⟩⟩⟩⟩⟩⟩, ⟨⟨⟨⟨⟨@ni105, @kt105⟩, ⟨@bo105, ⟨@st105, @ze105⟩⟩⟩, ⟨⟨@nk106, @ag106⟩, ⟨@sz106, ⟨@by106, @un106⟩⟩⟩⟩, ⟨⟨⟨@ni106, @kt106⟩, ⟨@bo106, ⟨@st106, @ze106⟩⟩⟩, ⟨⟨@nk107, ⟨@ag107, @sz107⟩⟩, ⟨@by107, ⟨@un107, @ni107⟩⟩⟩⟩⟩, ⟨⟨⟨⟨@kt107, @bo107⟩, ⟨@st107, ⟨@ze107, @ag108⟩⟩⟩, ⟨⟨@sz108, @by108⟩, ⟨@un108, ⟨@ni108, @kt108⟩⟩⟩⟩, ⟨⟨⟨@bo108, @st108⟩, ⟨@ze108, ⟨@fi108, @fa108_0⟩⟩⟩, ⟨⟨@ft108_0, ⟨@fa108_1, @ft108_1⟩⟩, ⟨@fa108_2, ⟨@ft108_2, @fa108_3⟩⟩⟩⟩⟩⟩⟩, ⟨⟨⟨⟨⟨⟨@ft108_3, @ag109⟩, ⟨@sz109, ⟨@by109, @un109⟩⟩⟩, ⟨⟨@ni109, @kt109⟩, ⟨@bo109, ⟨@st109, @ze109⟩⟩⟩⟩, ⟨⟨⟨@fi109, @fa109_0⟩, ⟨@ft109_0, ⟨@fa109_1, @ft109_1⟩⟩⟩, ⟨⟨@fa109_2, ⟨@ft109_2, @fa109_3⟩⟩, ⟨@ft109_3, ⟨@ag111, @sz111⟩⟩⟩⟩⟩, ⟨⟨⟨⟨@by111, @un111⟩, ⟨@ni111, ⟨@kt111, @bo111⟩⟩⟩, ⟨⟨@st111, @ze111⟩, ⟨@fi111, ⟨@ft111_0, @ag112⟩⟩⟩⟩, ⟨⟨⟨@sz112, @by112⟩, ⟨@un112, ⟨@ni112, @kt112⟩⟩⟩, ⟨⟨@bo112, ⟨@st112, @ze112⟩⟩, ⟨@fi112, ⟨@ft112_0, @ag113⟩⟩⟩⟩⟩⟩, ⟨⟨⟨⟨⟨@sz113, @by113⟩, ⟨@un113, ⟨@ni113, @zo113⟩⟩⟩, ⟨⟨@kt113, @in113⟩, ⟨@bo113, ⟨@st113, @ze113⟩⟩⟩⟩, ⟨⟨⟨@ag114, @sz114⟩, ⟨@by114, ⟨@un114, @ni114⟩⟩⟩, ⟨⟨@zo114, ⟨@kt114, @in114⟩⟩, ⟨@bo114, ⟨@st114, @ze114⟩⟩⟩⟩⟩, ⟨⟨⟨⟨@nk115, @ag115⟩, ⟨@sz115, ⟨@by115, @un115⟩⟩⟩, ⟨⟨@ni115, ⟨@kt115, @bo115⟩⟩, ⟨@st115, ⟨@ze115, @nk116⟩⟩⟩⟩, ⟨⟨⟨@ag116, @sz116⟩, ⟨@by116, ⟨@un116, @ni116⟩⟩⟩, ⟨⟨@zo116, ⟨@kt116, @bo116⟩⟩, ⟨@st116, ⟨@ze116, @ag117⟩⟩⟩⟩⟩⟩⟩⟩, ⟨⟨⟨⟨⟨⟨⟨@sz117, @by117⟩, ⟨@un117, ⟨@ni117, @zo117⟩⟩⟩, ⟨⟨@kt117, @in117⟩, ⟨@bo117, ⟨@st117, @ze117⟩⟩⟩⟩, ⟨⟨⟨@ag118, @sz118⟩, ⟨@by118, ⟨@un118, @ni118⟩⟩⟩, ⟨⟨@zo118, ⟨@kt118, @in118⟩⟩, ⟨@bo118, ⟨@st118, @ze118⟩⟩⟩⟩⟩, ⟨⟨⟨⟨@ag119, @sz119⟩, ⟨@by119, ⟨@un119, @ni119⟩⟩⟩, ⟨⟨@kt119, @bo119⟩, ⟨@st119, ⟨@ze119, @fi119⟩⟩⟩⟩, ⟨⟨⟨@fa119_0, @ft119_0⟩, ⟨@fa119_1, ⟨@ft119_1, @fa119_2⟩⟩⟩, ⟨⟨@ft119_2, ⟨@fa119_3, @ft119_3⟩⟩, ⟨@fa119_4, ⟨@ft119_4, @fa119_5⟩⟩⟩⟩⟩⟩, ⟨⟨⟨⟨⟨@ft119_5, @fa119_6⟩, ⟨@ft119_6, ⟨@fa119_7, @ft119_7⟩⟩⟩, ⟨⟨@fa119_8, @ft119_8⟩, ⟨@fa119_9, ⟨@ft119_9, @fa119_10⟩⟩⟩⟩, ⟨⟨⟨@ft119_10, @ag120⟩, ⟨@sz120, ⟨@by120, @un120⟩⟩⟩, ⟨⟨@ni120, ⟨@kt120, @bo120⟩⟩, ⟨@st120, ⟨@ze120, @fi120⟩⟩⟩⟩⟩, ⟨⟨⟨⟨@fa120_0, @ft120_0⟩, ⟨@fa120_1, ⟨@ft120_1, @fa120_2⟩⟩⟩, ⟨⟨@ft120_2, @fa120_3⟩, ⟨@ft120_3, ⟨@fa120_4, @ft120_4⟩⟩⟩⟩, ⟨⟨⟨@fa120_5, @ft120_5⟩, ⟨@fa120_6, ⟨@ft120_6, @fa120_7⟩⟩⟩, ⟨⟨@ft120_7, ⟨@fa120_8, @ft120_8⟩⟩, ⟨@fa120_9, ⟨@ft120_9, @fa120_10⟩⟩⟩⟩⟩⟩⟩, ⟨⟨⟨⟨⟨⟨@ft120_10, @ag121⟩, ⟨@sz121, ⟨@by121, @un121⟩⟩⟩, ⟨⟨@ni121, @kt121⟩, ⟨@bo121, ⟨@st121, @ze121⟩⟩⟩⟩, ⟨⟨⟨@fo, @ca3⟩, ⟨@ca4, ⟨@ca5, @ca6⟩⟩⟩, ⟨⟨@ca7, ⟨@ca8, @ca9⟩⟩, ⟨@ca10, ⟨@ca11, @ca12⟩⟩⟩⟩⟩, ⟨⟨⟨⟨@ca13, @ca14⟩, ⟨@ca15, ⟨@ca16, @ca17⟩⟩⟩, ⟨⟨@ca18, @ca19⟩, ⟨@ca20, ⟨@ca21, @ca22⟩⟩⟩⟩, ⟨⟨⟨@ca23, @ca24⟩, ⟨@ca25, ⟨@ca26, @ca27⟩⟩⟩, ⟨⟨@ca28, ⟨@ca29, @ca30⟩⟩, ⟨@ca31, ⟨@ca32, @ca33⟩⟩⟩⟩⟩⟩, ⟨⟨⟨⟨⟨@ca34, @ca35⟩, ⟨@ca36, ⟨@ca37, @ca38⟩⟩⟩, ⟨⟨@ca39, @ca40⟩, ⟨@ca41, ⟨@ca42, @ca43⟩⟩⟩⟩, ⟨⟨⟨@ca44, @ca45⟩, ⟨@ca46, ⟨@ca47, @ca48⟩⟩⟩, ⟨⟨@ca49, ⟨@ca50, @ca51⟩⟩, ⟨@ca52, ⟨@ca53, @ca54⟩⟩⟩⟩⟩, ⟨⟨⟨⟨@ca55, @ca56⟩, ⟨@ca57, ⟨@ca58, @ca59⟩⟩⟩, ⟨⟨@ca60, ⟨@ca61, @ca62⟩⟩, ⟨@ca63, ⟨@ca64, @ca65⟩⟩⟩⟩, ⟨⟨⟨@ca66, @ca67⟩, ⟨@ca68, ⟨@ca69, @ca70⟩⟩⟩, ⟨⟨@ca71, ⟨@ca72, @ca73⟩⟩, ⟨@ca74, ⟨@ca75, @ca76⟩⟩⟩⟩⟩⟩⟩⟩⟩⟩⟩
end Go.Proofs.Ytljickachmdejaa.E
