/- Closed facts: what the walk asks of the program's table of types, and of its functions. No conditions. -/
import Derived.Test.YtnmbglnenmhpiaaDoorEngineC
import Derived.Test.YtnmbglnenmhpiaaDoorProg
import Derived.KernelRfl
namespace Go.Proofs.YtnmbglnenmhpiaaDoor.E
open Go
theorem nk1 : tyNil Tryd.prog 1 = some .func := by kernel_rfl
theorem ag1 : tyAgg Tryd.prog 1 = some false := by kernel_rfl
theorem sz1 : tySz Tryd.prog 1 = some 1 := by kernel_rfl
theorem by1 : tyBy Tryd.prog 1 = some 8 := by kernel_rfl
theorem un1 : (Tryd.prog.underlying 1).isSome = true := by kernel_rfl
theorem ni1 : tyNoIf Tryd.prog 1 = true := by kernel_rfl
theorem kt1 : tyKsT Tryd.prog 1 = [none] := by kernel_rfl
theorem bo1 : tyBool Tryd.prog 1 = false := by kernel_rfl
theorem st1 : tyStr Tryd.prog 1 = false := by kernel_rfl
theorem ze1 : tyZ Tryd.prog 1 = some [.val .nilFunc] := by kernel_rfl
theorem ag2 : tyAgg Tryd.prog 2 = some false := by kernel_rfl
theorem sz2 : tySz Tryd.prog 2 = some 1 := by kernel_rfl
theorem by2 : tyBy Tryd.prog 2 = some 8 := by kernel_rfl
theorem un2 : (Tryd.prog.underlying 2).isSome = true := by kernel_rfl
theorem ni2 : tyNoIf Tryd.prog 2 = true := by kernel_rfl
theorem zo2 : tyZ1 Tryd.prog 2 = some ((.int .i64 0)) := by kernel_rfl
theorem kt2 : tyKsT Tryd.prog 2 = [none] := by kernel_rfl
theorem in2 : tyInt Tryd.prog 2 = some .i64 := by kernel_rfl
theorem bo2 : tyBool Tryd.prog 2 = false := by kernel_rfl
theorem st2 : tyStr Tryd.prog 2 = false := by kernel_rfl
theorem ze2 : tyZ Tryd.prog 2 = some [.val (.int .i64 0)] := by kernel_rfl
theorem ag3 : tyAgg Tryd.prog 3 = some false := by kernel_rfl
theorem sz3 : tySz Tryd.prog 3 = some 1 := by kernel_rfl
theorem by3 : tyBy Tryd.prog 3 = some 8 := by kernel_rfl
theorem un3 : (Tryd.prog.underlying 3).isSome = true := by kernel_rfl
theorem ni3 : tyNoIf Tryd.prog 3 = true := by kernel_rfl
theorem zo3 : tyZ1 Tryd.prog 3 = some ((.int .i64 0)) := by kernel_rfl
theorem kt3 : tyKsT Tryd.prog 3 = [none] := by kernel_rfl
theorem in3 : tyInt Tryd.prog 3 = some .i64 := by kernel_rfl
theorem bo3 : tyBool Tryd.prog 3 = false := by kernel_rfl
theorem st3 : tyStr Tryd.prog 3 = false := by kernel_rfl
theorem ze3 : tyZ Tryd.prog 3 = some [.val (.int .i64 0)] := by kernel_rfl
theorem ag4 : tyAgg Tryd.prog 4 = some false := by kernel_rfl
theorem sz4 : tySz Tryd.prog 4 = some 1 := by kernel_rfl
theorem by4 : tyBy Tryd.prog 4 = some 1 := by kernel_rfl
theorem un4 : (Tryd.prog.underlying 4).isSome = true := by kernel_rfl
theorem ni4 : tyNoIf Tryd.prog 4 = true := by kernel_rfl
theorem zo4 : tyZ1 Tryd.prog 4 = some ((.bool false)) := by kernel_rfl
theorem kt4 : tyKsT Tryd.prog 4 = [none] := by kernel_rfl
theorem bo4 : tyBool Tryd.prog 4 = true := by kernel_rfl
theorem st4 : tyStr Tryd.prog 4 = false := by kernel_rfl
theorem ze4 : tyZ Tryd.prog 4 = some [.val (.bool false)] := by kernel_rfl
theorem ag5 : tyAgg Tryd.prog 5 = some false := by kernel_rfl
theorem sz5 : tySz Tryd.prog 5 = some 1 := by kernel_rfl
theorem by5 : tyBy Tryd.prog 5 = some 1 := by kernel_rfl
theorem un5 : (Tryd.prog.underlying 5).isSome = true := by kernel_rfl
theorem ni5 : tyNoIf Tryd.prog 5 = true := by kernel_rfl
theorem zo5 : tyZ1 Tryd.prog 5 = some ((.int .u8 0)) := by kernel_rfl
theorem kt5 : tyKsT Tryd.prog 5 = [none] := by kernel_rfl
theorem in5 : tyInt Tryd.prog 5 = some .u8 := by kernel_rfl
theorem bo5 : tyBool Tryd.prog 5 = false := by kernel_rfl
theorem st5 : tyStr Tryd.prog 5 = false := by kernel_rfl
theorem ze5 : tyZ Tryd.prog 5 = some [.val (.int .u8 0)] := by kernel_rfl
theorem ag6 : tyAgg Tryd.prog 6 = some false := by kernel_rfl
theorem sz6 : tySz Tryd.prog 6 = some 1 := by kernel_rfl
theorem by6 : tyBy Tryd.prog 6 = some 1 := by kernel_rfl
theorem un6 : (Tryd.prog.underlying 6).isSome = true := by kernel_rfl
theorem ni6 : tyNoIf Tryd.prog 6 = true := by kernel_rfl
theorem zo6 : tyZ1 Tryd.prog 6 = some ((.int .u8 0)) := by kernel_rfl
theorem kt6 : tyKsT Tryd.prog 6 = [none] := by kernel_rfl
theorem in6 : tyInt Tryd.prog 6 = some .u8 := by kernel_rfl
theorem bo6 : tyBool Tryd.prog 6 = false := by kernel_rfl
theorem st6 : tyStr Tryd.prog 6 = false := by kernel_rfl
theorem ze6 : tyZ Tryd.prog 6 = some [.val (.int .u8 0)] := by kernel_rfl
theorem ag7 : tyAgg Tryd.prog 7 = some true := by kernel_rfl
theorem sz7 : tySz Tryd.prog 7 = some 4 := by kernel_rfl
theorem by7 : tyBy Tryd.prog 7 = some 24 := by kernel_rfl
theorem un7 : (Tryd.prog.underlying 7).isSome = true := by kernel_rfl
theorem ni7 : tyNoIf Tryd.prog 7 = true := by kernel_rfl
theorem kt7 : tyKsT Tryd.prog 7 = [none, none, none, none] := by kernel_rfl
theorem bo7 : tyBool Tryd.prog 7 = false := by kernel_rfl
theorem st7 : tyStr Tryd.prog 7 = false := by kernel_rfl
theorem ze7 : tyZ Tryd.prog 7 = some [.val (.int .i64 0), .val (.int .i64 0), .val (.bool false), .val (.int .u8 0)] := by kernel_rfl
theorem fi7 : tyF Tryd.prog 7 = some [(0, 1), (1, 1), (2, 1), (3, 1)] := by kernel_rfl
theorem fa7_0 : tyFA Tryd.prog 7 0 = some 0 := by kernel_rfl
theorem ft7_0 : tyFT Tryd.prog 7 0 = some (0, 2) := by kernel_rfl
theorem fa7_1 : tyFA Tryd.prog 7 1 = some 1 := by kernel_rfl
theorem ft7_1 : tyFT Tryd.prog 7 1 = some (1, 3) := by kernel_rfl
theorem fa7_2 : tyFA Tryd.prog 7 2 = some 2 := by kernel_rfl
theorem ft7_2 : tyFT Tryd.prog 7 2 = some (2, 4) := by kernel_rfl
theorem fa7_3 : tyFA Tryd.prog 7 3 = some 3 := by kernel_rfl
theorem ft7_3 : tyFT Tryd.prog 7 3 = some (3, 6) := by kernel_rfl
theorem ag8 : tyAgg Tryd.prog 8 = some true := by kernel_rfl
theorem sz8 : tySz Tryd.prog 8 = some 4 := by kernel_rfl
theorem by8 : tyBy Tryd.prog 8 = some 24 := by kernel_rfl
theorem un8 : (Tryd.prog.underlying 8).isSome = true := by kernel_rfl
theorem ni8 : tyNoIf Tryd.prog 8 = true := by kernel_rfl
theorem kt8 : tyKsT Tryd.prog 8 = [none, none, none, none] := by kernel_rfl
theorem bo8 : tyBool Tryd.prog 8 = false := by kernel_rfl
theorem st8 : tyStr Tryd.prog 8 = false := by kernel_rfl
theorem ze8 : tyZ Tryd.prog 8 = some [.val (.int .i64 0), .val (.int .i64 0), .val (.bool false), .val (.int .u8 0)] := by kernel_rfl
theorem fi8 : tyF Tryd.prog 8 = some [(0, 1), (1, 1), (2, 1), (3, 1)] := by kernel_rfl
theorem fa8_0 : tyFA Tryd.prog 8 0 = some 0 := by kernel_rfl
theorem ft8_0 : tyFT Tryd.prog 8 0 = some (0, 2) := by kernel_rfl
theorem fa8_1 : tyFA Tryd.prog 8 1 = some 1 := by kernel_rfl
theorem ft8_1 : tyFT Tryd.prog 8 1 = some (1, 3) := by kernel_rfl
theorem fa8_2 : tyFA Tryd.prog 8 2 = some 2 := by kernel_rfl
theorem ft8_2 : tyFT Tryd.prog 8 2 = some (2, 4) := by kernel_rfl
theorem fa8_3 : tyFA Tryd.prog 8 3 = some 3 := by kernel_rfl
theorem ft8_3 : tyFT Tryd.prog 8 3 = some (3, 6) := by kernel_rfl
theorem ag9 : tyAgg Tryd.prog 9 = some false := by kernel_rfl
theorem sz9 : tySz Tryd.prog 9 = some 1 := by kernel_rfl
theorem by9 : tyBy Tryd.prog 9 = some 16 := by kernel_rfl
theorem un9 : (Tryd.prog.underlying 9).isSome = true := by kernel_rfl
theorem ni9 : tyNoIf Tryd.prog 9 = true := by kernel_rfl
theorem zo9 : tyZ1 Tryd.prog 9 = some ((.string ⟨#[]⟩)) := by kernel_rfl
theorem kt9 : tyKsT Tryd.prog 9 = [none] := by kernel_rfl
theorem bo9 : tyBool Tryd.prog 9 = false := by kernel_rfl
theorem st9 : tyStr Tryd.prog 9 = true := by kernel_rfl
theorem ze9 : tyZ Tryd.prog 9 = some [.val (.string ⟨#[]⟩)] := by kernel_rfl
theorem ag10 : tyAgg Tryd.prog 10 = some false := by kernel_rfl
theorem sz10 : tySz Tryd.prog 10 = some 1 := by kernel_rfl
theorem by10 : tyBy Tryd.prog 10 = some 16 := by kernel_rfl
theorem un10 : (Tryd.prog.underlying 10).isSome = true := by kernel_rfl
theorem ni10 : tyNoIf Tryd.prog 10 = true := by kernel_rfl
theorem zo10 : tyZ1 Tryd.prog 10 = some ((.string ⟨#[]⟩)) := by kernel_rfl
theorem kt10 : tyKsT Tryd.prog 10 = [none] := by kernel_rfl
theorem bo10 : tyBool Tryd.prog 10 = false := by kernel_rfl
theorem st10 : tyStr Tryd.prog 10 = true := by kernel_rfl
theorem ze10 : tyZ Tryd.prog 10 = some [.val (.string ⟨#[]⟩)] := by kernel_rfl
theorem ag11 : tyAgg Tryd.prog 11 = some false := by kernel_rfl
theorem sz11 : tySz Tryd.prog 11 = some 1 := by kernel_rfl
theorem by11 : tyBy Tryd.prog 11 = some 16 := by kernel_rfl
theorem un11 : (Tryd.prog.underlying 11).isSome = true := by kernel_rfl
theorem ni11 : tyNoIf Tryd.prog 11 = true := by kernel_rfl
theorem zo11 : tyZ1 Tryd.prog 11 = some ((.string ⟨#[]⟩)) := by kernel_rfl
theorem kt11 : tyKsT Tryd.prog 11 = [none] := by kernel_rfl
theorem bo11 : tyBool Tryd.prog 11 = false := by kernel_rfl
theorem st11 : tyStr Tryd.prog 11 = true := by kernel_rfl
theorem ze11 : tyZ Tryd.prog 11 = some [.val (.string ⟨#[]⟩)] := by kernel_rfl
theorem ag12 : tyAgg Tryd.prog 12 = some false := by kernel_rfl
theorem sz12 : tySz Tryd.prog 12 = some 1 := by kernel_rfl
theorem by12 : tyBy Tryd.prog 12 = some 8 := by kernel_rfl
theorem un12 : (Tryd.prog.underlying 12).isSome = true := by kernel_rfl
theorem ni12 : tyNoIf Tryd.prog 12 = true := by kernel_rfl
theorem zo12 : tyZ1 Tryd.prog 12 = some ((.int .u64 0)) := by kernel_rfl
theorem kt12 : tyKsT Tryd.prog 12 = [none] := by kernel_rfl
theorem in12 : tyInt Tryd.prog 12 = some .u64 := by kernel_rfl
theorem bo12 : tyBool Tryd.prog 12 = false := by kernel_rfl
theorem st12 : tyStr Tryd.prog 12 = false := by kernel_rfl
theorem ze12 : tyZ Tryd.prog 12 = some [.val (.int .u64 0)] := by kernel_rfl
theorem ag13 : tyAgg Tryd.prog 13 = some true := by kernel_rfl
theorem sz13 : tySz Tryd.prog 13 = some 2 := by kernel_rfl
theorem by13 : tyBy Tryd.prog 13 = some 24 := by kernel_rfl
theorem un13 : (Tryd.prog.underlying 13).isSome = true := by kernel_rfl
theorem ni13 : tyNoIf Tryd.prog 13 = true := by kernel_rfl
theorem kt13 : tyKsT Tryd.prog 13 = [none, none] := by kernel_rfl
theorem bo13 : tyBool Tryd.prog 13 = false := by kernel_rfl
theorem st13 : tyStr Tryd.prog 13 = false := by kernel_rfl
theorem ze13 : tyZ Tryd.prog 13 = some [.val (.string ⟨#[]⟩), .val (.int .u64 0)] := by kernel_rfl
theorem fi13 : tyF Tryd.prog 13 = some [(0, 1), (1, 1)] := by kernel_rfl
theorem fa13_0 : tyFA Tryd.prog 13 0 = some 0 := by kernel_rfl
theorem ft13_0 : tyFT Tryd.prog 13 0 = some (0, 9) := by kernel_rfl
theorem fa13_1 : tyFA Tryd.prog 13 1 = some 1 := by kernel_rfl
theorem ft13_1 : tyFT Tryd.prog 13 1 = some (1, 12) := by kernel_rfl
theorem ag14 : tyAgg Tryd.prog 14 = some true := by kernel_rfl
theorem sz14 : tySz Tryd.prog 14 = some 2 := by kernel_rfl
theorem by14 : tyBy Tryd.prog 14 = some 24 := by kernel_rfl
theorem un14 : (Tryd.prog.underlying 14).isSome = true := by kernel_rfl
theorem ni14 : tyNoIf Tryd.prog 14 = true := by kernel_rfl
theorem kt14 : tyKsT Tryd.prog 14 = [none, none] := by kernel_rfl
theorem bo14 : tyBool Tryd.prog 14 = false := by kernel_rfl
theorem st14 : tyStr Tryd.prog 14 = false := by kernel_rfl
theorem ze14 : tyZ Tryd.prog 14 = some [.val (.string ⟨#[]⟩), .val (.int .u64 0)] := by kernel_rfl
theorem fi14 : tyF Tryd.prog 14 = some [(0, 1), (1, 1)] := by kernel_rfl
theorem fa14_0 : tyFA Tryd.prog 14 0 = some 0 := by kernel_rfl
theorem ft14_0 : tyFT Tryd.prog 14 0 = some (0, 9) := by kernel_rfl
theorem fa14_1 : tyFA Tryd.prog 14 1 = some 1 := by kernel_rfl
theorem ft14_1 : tyFT Tryd.prog 14 1 = some (1, 12) := by kernel_rfl
theorem nk15 : tyNil Tryd.prog 15 = some .pointer := by kernel_rfl
theorem ag15 : tyAgg Tryd.prog 15 = some false := by kernel_rfl
theorem sz15 : tySz Tryd.prog 15 = some 1 := by kernel_rfl
theorem by15 : tyBy Tryd.prog 15 = some 8 := by kernel_rfl
theorem un15 : (Tryd.prog.underlying 15).isSome = true := by kernel_rfl
theorem ni15 : tyNoIf Tryd.prog 15 = true := by kernel_rfl
theorem zo15 : tyZ1 Tryd.prog 15 = some ((.pointer none)) := by kernel_rfl
theorem kt15 : tyKsT Tryd.prog 15 = [none] := by kernel_rfl
theorem bo15 : tyBool Tryd.prog 15 = false := by kernel_rfl
theorem st15 : tyStr Tryd.prog 15 = false := by kernel_rfl
theorem ze15 : tyZ Tryd.prog 15 = some [.val (.pointer none)] := by kernel_rfl
theorem nk16 : tyNil Tryd.prog 16 = some .pointer := by kernel_rfl
theorem ag16 : tyAgg Tryd.prog 16 = some false := by kernel_rfl
theorem sz16 : tySz Tryd.prog 16 = some 1 := by kernel_rfl
theorem by16 : tyBy Tryd.prog 16 = some 8 := by kernel_rfl
theorem un16 : (Tryd.prog.underlying 16).isSome = true := by kernel_rfl
theorem ni16 : tyNoIf Tryd.prog 16 = true := by kernel_rfl
theorem zo16 : tyZ1 Tryd.prog 16 = some ((.pointer none)) := by kernel_rfl
theorem kt16 : tyKsT Tryd.prog 16 = [none] := by kernel_rfl
theorem bo16 : tyBool Tryd.prog 16 = false := by kernel_rfl
theorem st16 : tyStr Tryd.prog 16 = false := by kernel_rfl
theorem ze16 : tyZ Tryd.prog 16 = some [.val (.pointer none)] := by kernel_rfl
theorem nk17 : tyNil Tryd.prog 17 = some .pointer := by kernel_rfl
theorem ag17 : tyAgg Tryd.prog 17 = some false := by kernel_rfl
theorem sz17 : tySz Tryd.prog 17 = some 1 := by kernel_rfl
theorem by17 : tyBy Tryd.prog 17 = some 8 := by kernel_rfl
theorem un17 : (Tryd.prog.underlying 17).isSome = true := by kernel_rfl
theorem ni17 : tyNoIf Tryd.prog 17 = true := by kernel_rfl
theorem zo17 : tyZ1 Tryd.prog 17 = some ((.pointer none)) := by kernel_rfl
theorem kt17 : tyKsT Tryd.prog 17 = [none] := by kernel_rfl
theorem bo17 : tyBool Tryd.prog 17 = false := by kernel_rfl
theorem st17 : tyStr Tryd.prog 17 = false := by kernel_rfl
theorem ze17 : tyZ Tryd.prog 17 = some [.val (.pointer none)] := by kernel_rfl
theorem ag18 : tyAgg Tryd.prog 18 = some true := by kernel_rfl
theorem sz18 : tySz Tryd.prog 18 = some 1 := by kernel_rfl
theorem by18 : tyBy Tryd.prog 18 = some 8 := by kernel_rfl
theorem un18 : (Tryd.prog.underlying 18).isSome = true := by kernel_rfl
theorem ni18 : tyNoIf Tryd.prog 18 = true := by kernel_rfl
theorem kt18 : tyKsT Tryd.prog 18 = [none] := by kernel_rfl
theorem bo18 : tyBool Tryd.prog 18 = false := by kernel_rfl
theorem st18 : tyStr Tryd.prog 18 = false := by kernel_rfl
theorem ze18 : tyZ Tryd.prog 18 = some [.val (.pointer none)] := by kernel_rfl
theorem fi18 : tyF Tryd.prog 18 = some [(0, 1)] := by kernel_rfl
theorem fa18_0 : tyFA Tryd.prog 18 0 = some 0 := by kernel_rfl
theorem ft18_0 : tyFT Tryd.prog 18 0 = some (0, 17) := by kernel_rfl
theorem ag19 : tyAgg Tryd.prog 19 = some true := by kernel_rfl
theorem sz19 : tySz Tryd.prog 19 = some 1 := by kernel_rfl
theorem by19 : tyBy Tryd.prog 19 = some 8 := by kernel_rfl
theorem un19 : (Tryd.prog.underlying 19).isSome = true := by kernel_rfl
theorem ni19 : tyNoIf Tryd.prog 19 = true := by kernel_rfl
theorem kt19 : tyKsT Tryd.prog 19 = [none] := by kernel_rfl
theorem bo19 : tyBool Tryd.prog 19 = false := by kernel_rfl
theorem st19 : tyStr Tryd.prog 19 = false := by kernel_rfl
theorem ze19 : tyZ Tryd.prog 19 = some [.val (.pointer none)] := by kernel_rfl
theorem fi19 : tyF Tryd.prog 19 = some [(0, 1)] := by kernel_rfl
theorem fa19_0 : tyFA Tryd.prog 19 0 = some 0 := by kernel_rfl
theorem ft19_0 : tyFT Tryd.prog 19 0 = some (0, 17) := by kernel_rfl
theorem nk20 : tyNil Tryd.prog 20 = some .iface := by kernel_rfl
theorem ag20 : tyAgg Tryd.prog 20 = some false := by kernel_rfl
theorem sz20 : tySz Tryd.prog 20 = some 1 := by kernel_rfl
theorem by20 : tyBy Tryd.prog 20 = some 16 := by kernel_rfl
theorem un20 : (Tryd.prog.underlying 20).isSome = true := by kernel_rfl
theorem ni20 : tyNoIf Tryd.prog 20 = false := by kernel_rfl
theorem kt20 : tyKsT Tryd.prog 20 = [none] := by kernel_rfl
theorem bo20 : tyBool Tryd.prog 20 = false := by kernel_rfl
theorem st20 : tyStr Tryd.prog 20 = false := by kernel_rfl
theorem ze20 : tyZ Tryd.prog 20 = some [.val .nilIface] := by kernel_rfl
theorem ag21 : tyAgg Tryd.prog 21 = some false := by kernel_rfl
theorem sz21 : tySz Tryd.prog 21 = some 1 := by kernel_rfl
theorem by21 : tyBy Tryd.prog 21 = some 4 := by kernel_rfl
theorem un21 : (Tryd.prog.underlying 21).isSome = true := by kernel_rfl
theorem ni21 : tyNoIf Tryd.prog 21 = true := by kernel_rfl
theorem zo21 : tyZ1 Tryd.prog 21 = some ((.int .i32 0)) := by kernel_rfl
theorem kt21 : tyKsT Tryd.prog 21 = [none] := by kernel_rfl
theorem in21 : tyInt Tryd.prog 21 = some .i32 := by kernel_rfl
theorem bo21 : tyBool Tryd.prog 21 = false := by kernel_rfl
theorem st21 : tyStr Tryd.prog 21 = false := by kernel_rfl
theorem ze21 : tyZ Tryd.prog 21 = some [.val (.int .i32 0)] := by kernel_rfl
theorem nk22 : tyNil Tryd.prog 22 = some .slice := by kernel_rfl
theorem ag22 : tyAgg Tryd.prog 22 = some false := by kernel_rfl
theorem sz22 : tySz Tryd.prog 22 = some 1 := by kernel_rfl
theorem by22 : tyBy Tryd.prog 22 = some 24 := by kernel_rfl
theorem un22 : (Tryd.prog.underlying 22).isSome = true := by kernel_rfl
theorem ni22 : tyNoIf Tryd.prog 22 = true := by kernel_rfl
theorem zo22 : tyZ1 Tryd.prog 22 = some ((.slice none 0 0)) := by kernel_rfl
theorem ke22 : tyKsE Tryd.prog 22 = [none] := by kernel_rfl
theorem kt22 : tyKsT Tryd.prog 22 = [some 1] := by kernel_rfl
theorem el22 : tyEl Tryd.prog 22 = some 3 := by kernel_rfl
theorem bo22 : tyBool Tryd.prog 22 = false := by kernel_rfl
theorem st22 : tyStr Tryd.prog 22 = false := by kernel_rfl
theorem ze22 : tyZ Tryd.prog 22 = some [.val (.slice none 0 0)] := by kernel_rfl
theorem ag23 : tyAgg Tryd.prog 23 = some false := by kernel_rfl
theorem sz23 : tySz Tryd.prog 23 = some 1 := by kernel_rfl
theorem by23 : tyBy Tryd.prog 23 = some 8 := by kernel_rfl
theorem un23 : (Tryd.prog.underlying 23).isSome = true := by kernel_rfl
theorem ni23 : tyNoIf Tryd.prog 23 = true := by kernel_rfl
theorem zo23 : tyZ1 Tryd.prog 23 = some ((.int .i64 0)) := by kernel_rfl
theorem kt23 : tyKsT Tryd.prog 23 = [none] := by kernel_rfl
theorem in23 : tyInt Tryd.prog 23 = some .i64 := by kernel_rfl
theorem bo23 : tyBool Tryd.prog 23 = false := by kernel_rfl
theorem st23 : tyStr Tryd.prog 23 = false := by kernel_rfl
theorem ze23 : tyZ Tryd.prog 23 = some [.val (.int .i64 0)] := by kernel_rfl
theorem nk25 : tyNil Tryd.prog 25 = some .func := by kernel_rfl
theorem ag25 : tyAgg Tryd.prog 25 = some false := by kernel_rfl
theorem sz25 : tySz Tryd.prog 25 = some 1 := by kernel_rfl
theorem by25 : tyBy Tryd.prog 25 = some 8 := by kernel_rfl
theorem un25 : (Tryd.prog.underlying 25).isSome = true := by kernel_rfl
theorem ni25 : tyNoIf Tryd.prog 25 = true := by kernel_rfl
theorem kt25 : tyKsT Tryd.prog 25 = [none] := by kernel_rfl
theorem bo25 : tyBool Tryd.prog 25 = false := by kernel_rfl
theorem st25 : tyStr Tryd.prog 25 = false := by kernel_rfl
theorem ze25 : tyZ Tryd.prog 25 = some [.val .nilFunc] := by kernel_rfl
theorem nk26 : tyNil Tryd.prog 26 = some .func := by kernel_rfl
theorem ag26 : tyAgg Tryd.prog 26 = some false := by kernel_rfl
theorem sz26 : tySz Tryd.prog 26 = some 1 := by kernel_rfl
theorem by26 : tyBy Tryd.prog 26 = some 8 := by kernel_rfl
theorem un26 : (Tryd.prog.underlying 26).isSome = true := by kernel_rfl
theorem ni26 : tyNoIf Tryd.prog 26 = true := by kernel_rfl
theorem kt26 : tyKsT Tryd.prog 26 = [none] := by kernel_rfl
theorem bo26 : tyBool Tryd.prog 26 = false := by kernel_rfl
theorem st26 : tyStr Tryd.prog 26 = false := by kernel_rfl
theorem ze26 : tyZ Tryd.prog 26 = some [.val .nilFunc] := by kernel_rfl
theorem nk27 : tyNil Tryd.prog 27 = some .func := by kernel_rfl
theorem ag27 : tyAgg Tryd.prog 27 = some false := by kernel_rfl
theorem sz27 : tySz Tryd.prog 27 = some 1 := by kernel_rfl
theorem by27 : tyBy Tryd.prog 27 = some 8 := by kernel_rfl
theorem un27 : (Tryd.prog.underlying 27).isSome = true := by kernel_rfl
theorem ni27 : tyNoIf Tryd.prog 27 = true := by kernel_rfl
theorem kt27 : tyKsT Tryd.prog 27 = [none] := by kernel_rfl
theorem bo27 : tyBool Tryd.prog 27 = false := by kernel_rfl
theorem st27 : tyStr Tryd.prog 27 = false := by kernel_rfl
theorem ze27 : tyZ Tryd.prog 27 = some [.val .nilFunc] := by kernel_rfl
theorem nk29 : tyNil Tryd.prog 29 = some .func := by kernel_rfl
theorem ag29 : tyAgg Tryd.prog 29 = some false := by kernel_rfl
theorem sz29 : tySz Tryd.prog 29 = some 1 := by kernel_rfl
theorem by29 : tyBy Tryd.prog 29 = some 8 := by kernel_rfl
theorem un29 : (Tryd.prog.underlying 29).isSome = true := by kernel_rfl
theorem ni29 : tyNoIf Tryd.prog 29 = true := by kernel_rfl
theorem kt29 : tyKsT Tryd.prog 29 = [none] := by kernel_rfl
theorem bo29 : tyBool Tryd.prog 29 = false := by kernel_rfl
theorem st29 : tyStr Tryd.prog 29 = false := by kernel_rfl
theorem ze29 : tyZ Tryd.prog 29 = some [.val .nilFunc] := by kernel_rfl
theorem nk30 : tyNil Tryd.prog 30 = some .func := by kernel_rfl
theorem ag30 : tyAgg Tryd.prog 30 = some false := by kernel_rfl
theorem sz30 : tySz Tryd.prog 30 = some 1 := by kernel_rfl
theorem by30 : tyBy Tryd.prog 30 = some 8 := by kernel_rfl
theorem un30 : (Tryd.prog.underlying 30).isSome = true := by kernel_rfl
theorem ni30 : tyNoIf Tryd.prog 30 = true := by kernel_rfl
theorem kt30 : tyKsT Tryd.prog 30 = [none] := by kernel_rfl
theorem bo30 : tyBool Tryd.prog 30 = false := by kernel_rfl
theorem st30 : tyStr Tryd.prog 30 = false := by kernel_rfl
theorem ze30 : tyZ Tryd.prog 30 = some [.val .nilFunc] := by kernel_rfl
theorem nk31 : tyNil Tryd.prog 31 = some .slice := by kernel_rfl
theorem ag31 : tyAgg Tryd.prog 31 = some false := by kernel_rfl
theorem sz31 : tySz Tryd.prog 31 = some 1 := by kernel_rfl
theorem by31 : tyBy Tryd.prog 31 = some 24 := by kernel_rfl
theorem un31 : (Tryd.prog.underlying 31).isSome = true := by kernel_rfl
theorem ni31 : tyNoIf Tryd.prog 31 = true := by kernel_rfl
theorem zo31 : tyZ1 Tryd.prog 31 = some ((.slice none 0 0)) := by kernel_rfl
theorem ke31 : tyKsE Tryd.prog 31 = [none, none] := by kernel_rfl
theorem kt31 : tyKsT Tryd.prog 31 = [some 2] := by kernel_rfl
theorem el31 : tyEl Tryd.prog 31 = some 38 := by kernel_rfl
theorem bo31 : tyBool Tryd.prog 31 = false := by kernel_rfl
theorem st31 : tyStr Tryd.prog 31 = false := by kernel_rfl
theorem ze31 : tyZ Tryd.prog 31 = some [.val (.slice none 0 0)] := by kernel_rfl
theorem nk32 : tyNil Tryd.prog 32 = some .slice := by kernel_rfl
theorem ag32 : tyAgg Tryd.prog 32 = some false := by kernel_rfl
theorem sz32 : tySz Tryd.prog 32 = some 1 := by kernel_rfl
theorem by32 : tyBy Tryd.prog 32 = some 24 := by kernel_rfl
theorem un32 : (Tryd.prog.underlying 32).isSome = true := by kernel_rfl
theorem ni32 : tyNoIf Tryd.prog 32 = true := by kernel_rfl
theorem zo32 : tyZ1 Tryd.prog 32 = some ((.slice none 0 0)) := by kernel_rfl
theorem ke32 : tyKsE Tryd.prog 32 = [none] := by kernel_rfl
theorem kt32 : tyKsT Tryd.prog 32 = [some 1] := by kernel_rfl
theorem el32 : tyEl Tryd.prog 32 = some 9 := by kernel_rfl
theorem bo32 : tyBool Tryd.prog 32 = false := by kernel_rfl
theorem st32 : tyStr Tryd.prog 32 = false := by kernel_rfl
theorem ze32 : tyZ Tryd.prog 32 = some [.val (.slice none 0 0)] := by kernel_rfl
theorem ag33 : tyAgg Tryd.prog 33 = some true := by kernel_rfl
theorem sz33 : tySz Tryd.prog 33 = some 4 := by kernel_rfl
theorem by33 : tyBy Tryd.prog 33 = some 72 := by kernel_rfl
theorem un33 : (Tryd.prog.underlying 33).isSome = true := by kernel_rfl
theorem ni33 : tyNoIf Tryd.prog 33 = true := by kernel_rfl
theorem kt33 : tyKsT Tryd.prog 33 = [none, none, some 2, some 1] := by kernel_rfl
theorem bo33 : tyBool Tryd.prog 33 = false := by kernel_rfl
theorem st33 : tyStr Tryd.prog 33 = false := by kernel_rfl
theorem ze33 : tyZ Tryd.prog 33 = some [.val (.string ⟨#[]⟩), .val (.int .i64 0), .val (.slice none 0 0), .val (.slice none 0 0)] := by kernel_rfl
theorem fi33 : tyF Tryd.prog 33 = some [(0, 1), (1, 1), (2, 1), (3, 1)] := by kernel_rfl
theorem fa33_0 : tyFA Tryd.prog 33 0 = some 0 := by kernel_rfl
theorem ft33_0 : tyFT Tryd.prog 33 0 = some (0, 9) := by kernel_rfl
theorem fa33_1 : tyFA Tryd.prog 33 1 = some 1 := by kernel_rfl
theorem ft33_1 : tyFT Tryd.prog 33 1 = some (1, 3) := by kernel_rfl
theorem fa33_2 : tyFA Tryd.prog 33 2 = some 2 := by kernel_rfl
theorem ft33_2 : tyFT Tryd.prog 33 2 = some (2, 31) := by kernel_rfl
theorem fa33_3 : tyFA Tryd.prog 33 3 = some 3 := by kernel_rfl
theorem ft33_3 : tyFT Tryd.prog 33 3 = some (3, 32) := by kernel_rfl
theorem ag34 : tyAgg Tryd.prog 34 = some true := by kernel_rfl
theorem sz34 : tySz Tryd.prog 34 = some 4 := by kernel_rfl
theorem by34 : tyBy Tryd.prog 34 = some 72 := by kernel_rfl
theorem un34 : (Tryd.prog.underlying 34).isSome = true := by kernel_rfl
theorem ni34 : tyNoIf Tryd.prog 34 = true := by kernel_rfl
theorem kt34 : tyKsT Tryd.prog 34 = [none, none, some 2, some 1] := by kernel_rfl
theorem bo34 : tyBool Tryd.prog 34 = false := by kernel_rfl
theorem st34 : tyStr Tryd.prog 34 = false := by kernel_rfl
theorem ze34 : tyZ Tryd.prog 34 = some [.val (.string ⟨#[]⟩), .val (.int .i64 0), .val (.slice none 0 0), .val (.slice none 0 0)] := by kernel_rfl
theorem fi34 : tyF Tryd.prog 34 = some [(0, 1), (1, 1), (2, 1), (3, 1)] := by kernel_rfl
theorem fa34_0 : tyFA Tryd.prog 34 0 = some 0 := by kernel_rfl
theorem ft34_0 : tyFT Tryd.prog 34 0 = some (0, 9) := by kernel_rfl
theorem fa34_1 : tyFA Tryd.prog 34 1 = some 1 := by kernel_rfl
theorem ft34_1 : tyFT Tryd.prog 34 1 = some (1, 3) := by kernel_rfl
theorem fa34_2 : tyFA Tryd.prog 34 2 = some 2 := by kernel_rfl
theorem ft34_2 : tyFT Tryd.prog 34 2 = some (2, 31) := by kernel_rfl
theorem fa34_3 : tyFA Tryd.prog 34 3 = some 3 := by kernel_rfl
theorem ft34_3 : tyFT Tryd.prog 34 3 = some (3, 32) := by kernel_rfl
theorem nk36 : tyNil Tryd.prog 36 = some .func := by kernel_rfl
theorem ag36 : tyAgg Tryd.prog 36 = some false := by kernel_rfl
theorem sz36 : tySz Tryd.prog 36 = some 1 := by kernel_rfl
theorem by36 : tyBy Tryd.prog 36 = some 8 := by kernel_rfl
theorem un36 : (Tryd.prog.underlying 36).isSome = true := by kernel_rfl
theorem ni36 : tyNoIf Tryd.prog 36 = true := by kernel_rfl
theorem kt36 : tyKsT Tryd.prog 36 = [none] := by kernel_rfl
theorem bo36 : tyBool Tryd.prog 36 = false := by kernel_rfl
theorem st36 : tyStr Tryd.prog 36 = false := by kernel_rfl
theorem ze36 : tyZ Tryd.prog 36 = some [.val .nilFunc] := by kernel_rfl
theorem ag37 : tyAgg Tryd.prog 37 = some true := by kernel_rfl
theorem sz37 : tySz Tryd.prog 37 = some 2 := by kernel_rfl
theorem by37 : tyBy Tryd.prog 37 = some 32 := by kernel_rfl
theorem un37 : (Tryd.prog.underlying 37).isSome = true := by kernel_rfl
theorem ni37 : tyNoIf Tryd.prog 37 = true := by kernel_rfl
theorem kt37 : tyKsT Tryd.prog 37 = [none, none] := by kernel_rfl
theorem bo37 : tyBool Tryd.prog 37 = false := by kernel_rfl
theorem st37 : tyStr Tryd.prog 37 = false := by kernel_rfl
theorem ze37 : tyZ Tryd.prog 37 = some [.val (.string ⟨#[]⟩), .val (.string ⟨#[]⟩)] := by kernel_rfl
theorem fi37 : tyF Tryd.prog 37 = some [(0, 1), (1, 1)] := by kernel_rfl
theorem fa37_0 : tyFA Tryd.prog 37 0 = some 0 := by kernel_rfl
theorem ft37_0 : tyFT Tryd.prog 37 0 = some (0, 9) := by kernel_rfl
theorem fa37_1 : tyFA Tryd.prog 37 1 = some 1 := by kernel_rfl
theorem ft37_1 : tyFT Tryd.prog 37 1 = some (1, 9) := by kernel_rfl
theorem ag38 : tyAgg Tryd.prog 38 = some true := by kernel_rfl
theorem sz38 : tySz Tryd.prog 38 = some 2 := by kernel_rfl
theorem by38 : tyBy Tryd.prog 38 = some 32 := by kernel_rfl
theorem un38 : (Tryd.prog.underlying 38).isSome = true := by kernel_rfl
theorem ni38 : tyNoIf Tryd.prog 38 = true := by kernel_rfl
theorem kt38 : tyKsT Tryd.prog 38 = [none, none] := by kernel_rfl
theorem bo38 : tyBool Tryd.prog 38 = false := by kernel_rfl
theorem st38 : tyStr Tryd.prog 38 = false := by kernel_rfl
theorem ze38 : tyZ Tryd.prog 38 = some [.val (.string ⟨#[]⟩), .val (.string ⟨#[]⟩)] := by kernel_rfl
theorem eq38 : tyEq Tryd.prog 38 = some [.str, .str] := by kernel_rfl
theorem fi38 : tyF Tryd.prog 38 = some [(0, 1), (1, 1)] := by kernel_rfl
theorem fa38_0 : tyFA Tryd.prog 38 0 = some 0 := by kernel_rfl
theorem ft38_0 : tyFT Tryd.prog 38 0 = some (0, 9) := by kernel_rfl
theorem fa38_1 : tyFA Tryd.prog 38 1 = some 1 := by kernel_rfl
theorem ft38_1 : tyFT Tryd.prog 38 1 = some (1, 9) := by kernel_rfl
theorem nk39 : tyNil Tryd.prog 39 = some .func := by kernel_rfl
theorem ag39 : tyAgg Tryd.prog 39 = some false := by kernel_rfl
theorem sz39 : tySz Tryd.prog 39 = some 1 := by kernel_rfl
theorem by39 : tyBy Tryd.prog 39 = some 8 := by kernel_rfl
theorem un39 : (Tryd.prog.underlying 39).isSome = true := by kernel_rfl
theorem ni39 : tyNoIf Tryd.prog 39 = true := by kernel_rfl
theorem kt39 : tyKsT Tryd.prog 39 = [none] := by kernel_rfl
theorem bo39 : tyBool Tryd.prog 39 = false := by kernel_rfl
theorem st39 : tyStr Tryd.prog 39 = false := by kernel_rfl
theorem ze39 : tyZ Tryd.prog 39 = some [.val .nilFunc] := by kernel_rfl
theorem nk40 : tyNil Tryd.prog 40 = some .func := by kernel_rfl
theorem ag40 : tyAgg Tryd.prog 40 = some false := by kernel_rfl
theorem sz40 : tySz Tryd.prog 40 = some 1 := by kernel_rfl
theorem by40 : tyBy Tryd.prog 40 = some 8 := by kernel_rfl
theorem un40 : (Tryd.prog.underlying 40).isSome = true := by kernel_rfl
theorem ni40 : tyNoIf Tryd.prog 40 = true := by kernel_rfl
theorem kt40 : tyKsT Tryd.prog 40 = [none] := by kernel_rfl
theorem bo40 : tyBool Tryd.prog 40 = false := by kernel_rfl
theorem st40 : tyStr Tryd.prog 40 = false := by kernel_rfl
theorem ze40 : tyZ Tryd.prog 40 = some [.val .nilFunc] := by kernel_rfl
theorem nk41 : tyNil Tryd.prog 41 = some .func := by kernel_rfl
theorem ag41 : tyAgg Tryd.prog 41 = some false := by kernel_rfl
theorem sz41 : tySz Tryd.prog 41 = some 1 := by kernel_rfl
theorem by41 : tyBy Tryd.prog 41 = some 8 := by kernel_rfl
theorem un41 : (Tryd.prog.underlying 41).isSome = true := by kernel_rfl
theorem ni41 : tyNoIf Tryd.prog 41 = true := by kernel_rfl
theorem kt41 : tyKsT Tryd.prog 41 = [none] := by kernel_rfl
theorem bo41 : tyBool Tryd.prog 41 = false := by kernel_rfl
theorem st41 : tyStr Tryd.prog 41 = false := by kernel_rfl
theorem ze41 : tyZ Tryd.prog 41 = some [.val .nilFunc] := by kernel_rfl
theorem nk42 : tyNil Tryd.prog 42 = some .func := by kernel_rfl
theorem ag42 : tyAgg Tryd.prog 42 = some false := by kernel_rfl
theorem sz42 : tySz Tryd.prog 42 = some 1 := by kernel_rfl
theorem by42 : tyBy Tryd.prog 42 = some 8 := by kernel_rfl
theorem un42 : (Tryd.prog.underlying 42).isSome = true := by kernel_rfl
theorem ni42 : tyNoIf Tryd.prog 42 = true := by kernel_rfl
theorem kt42 : tyKsT Tryd.prog 42 = [none] := by kernel_rfl
theorem bo42 : tyBool Tryd.prog 42 = false := by kernel_rfl
theorem st42 : tyStr Tryd.prog 42 = false := by kernel_rfl
theorem ze42 : tyZ Tryd.prog 42 = some [.val .nilFunc] := by kernel_rfl
theorem nk43 : tyNil Tryd.prog 43 = some .func := by kernel_rfl
theorem ag43 : tyAgg Tryd.prog 43 = some false := by kernel_rfl
theorem sz43 : tySz Tryd.prog 43 = some 1 := by kernel_rfl
theorem by43 : tyBy Tryd.prog 43 = some 8 := by kernel_rfl
theorem un43 : (Tryd.prog.underlying 43).isSome = true := by kernel_rfl
theorem ni43 : tyNoIf Tryd.prog 43 = true := by kernel_rfl
theorem kt43 : tyKsT Tryd.prog 43 = [none] := by kernel_rfl
theorem bo43 : tyBool Tryd.prog 43 = false := by kernel_rfl
theorem st43 : tyStr Tryd.prog 43 = false := by kernel_rfl
theorem ze43 : tyZ Tryd.prog 43 = some [.val .nilFunc] := by kernel_rfl
theorem nk45 : tyNil Tryd.prog 45 = some .func := by kernel_rfl
theorem ag45 : tyAgg Tryd.prog 45 = some false := by kernel_rfl
theorem sz45 : tySz Tryd.prog 45 = some 1 := by kernel_rfl
theorem by45 : tyBy Tryd.prog 45 = some 8 := by kernel_rfl
theorem un45 : (Tryd.prog.underlying 45).isSome = true := by kernel_rfl
theorem ni45 : tyNoIf Tryd.prog 45 = true := by kernel_rfl
theorem kt45 : tyKsT Tryd.prog 45 = [none] := by kernel_rfl
theorem bo45 : tyBool Tryd.prog 45 = false := by kernel_rfl
theorem st45 : tyStr Tryd.prog 45 = false := by kernel_rfl
theorem ze45 : tyZ Tryd.prog 45 = some [.val .nilFunc] := by kernel_rfl
theorem nk46 : tyNil Tryd.prog 46 = some .func := by kernel_rfl
theorem ag46 : tyAgg Tryd.prog 46 = some false := by kernel_rfl
theorem sz46 : tySz Tryd.prog 46 = some 1 := by kernel_rfl
theorem by46 : tyBy Tryd.prog 46 = some 8 := by kernel_rfl
theorem un46 : (Tryd.prog.underlying 46).isSome = true := by kernel_rfl
theorem ni46 : tyNoIf Tryd.prog 46 = true := by kernel_rfl
theorem kt46 : tyKsT Tryd.prog 46 = [none] := by kernel_rfl
theorem bo46 : tyBool Tryd.prog 46 = false := by kernel_rfl
theorem st46 : tyStr Tryd.prog 46 = false := by kernel_rfl
theorem ze46 : tyZ Tryd.prog 46 = some [.val .nilFunc] := by kernel_rfl
theorem nk47 : tyNil Tryd.prog 47 = some .func := by kernel_rfl
theorem ag47 : tyAgg Tryd.prog 47 = some false := by kernel_rfl
theorem sz47 : tySz Tryd.prog 47 = some 1 := by kernel_rfl
theorem by47 : tyBy Tryd.prog 47 = some 8 := by kernel_rfl
theorem un47 : (Tryd.prog.underlying 47).isSome = true := by kernel_rfl
theorem ni47 : tyNoIf Tryd.prog 47 = true := by kernel_rfl
theorem kt47 : tyKsT Tryd.prog 47 = [none] := by kernel_rfl
theorem bo47 : tyBool Tryd.prog 47 = false := by kernel_rfl
theorem st47 : tyStr Tryd.prog 47 = false := by kernel_rfl
theorem ze47 : tyZ Tryd.prog 47 = some [.val .nilFunc] := by kernel_rfl
theorem nk48 : tyNil Tryd.prog 48 = some .func := by kernel_rfl
theorem ag48 : tyAgg Tryd.prog 48 = some false := by kernel_rfl
theorem sz48 : tySz Tryd.prog 48 = some 1 := by kernel_rfl
theorem by48 : tyBy Tryd.prog 48 = some 8 := by kernel_rfl
theorem un48 : (Tryd.prog.underlying 48).isSome = true := by kernel_rfl
theorem ni48 : tyNoIf Tryd.prog 48 = true := by kernel_rfl
theorem kt48 : tyKsT Tryd.prog 48 = [none] := by kernel_rfl
theorem bo48 : tyBool Tryd.prog 48 = false := by kernel_rfl
theorem st48 : tyStr Tryd.prog 48 = false := by kernel_rfl
theorem ze48 : tyZ Tryd.prog 48 = some [.val .nilFunc] := by kernel_rfl
theorem nk49 : tyNil Tryd.prog 49 = some .func := by kernel_rfl
theorem ag49 : tyAgg Tryd.prog 49 = some false := by kernel_rfl
theorem sz49 : tySz Tryd.prog 49 = some 1 := by kernel_rfl
theorem by49 : tyBy Tryd.prog 49 = some 8 := by kernel_rfl
theorem un49 : (Tryd.prog.underlying 49).isSome = true := by kernel_rfl
theorem ni49 : tyNoIf Tryd.prog 49 = true := by kernel_rfl
theorem kt49 : tyKsT Tryd.prog 49 = [none] := by kernel_rfl
theorem bo49 : tyBool Tryd.prog 49 = false := by kernel_rfl
theorem st49 : tyStr Tryd.prog 49 = false := by kernel_rfl
theorem ze49 : tyZ Tryd.prog 49 = some [.val .nilFunc] := by kernel_rfl
theorem ag50 : tyAgg Tryd.prog 50 = some false := by kernel_rfl
theorem sz50 : tySz Tryd.prog 50 = some 1 := by kernel_rfl
theorem by50 : tyBy Tryd.prog 50 = some 8 := by kernel_rfl
theorem un50 : (Tryd.prog.underlying 50).isSome = true := by kernel_rfl
theorem ni50 : tyNoIf Tryd.prog 50 = true := by kernel_rfl
theorem zo50 : tyZ1 Tryd.prog 50 = some ((.int .u64 0)) := by kernel_rfl
theorem kt50 : tyKsT Tryd.prog 50 = [none] := by kernel_rfl
theorem in50 : tyInt Tryd.prog 50 = some .u64 := by kernel_rfl
theorem bo50 : tyBool Tryd.prog 50 = false := by kernel_rfl
theorem st50 : tyStr Tryd.prog 50 = false := by kernel_rfl
theorem ze50 : tyZ Tryd.prog 50 = some [.val (.int .u64 0)] := by kernel_rfl
theorem ag51 : tyAgg Tryd.prog 51 = some false := by kernel_rfl
theorem sz51 : tySz Tryd.prog 51 = some 1 := by kernel_rfl
theorem by51 : tyBy Tryd.prog 51 = some 8 := by kernel_rfl
theorem un51 : (Tryd.prog.underlying 51).isSome = true := by kernel_rfl
theorem ni51 : tyNoIf Tryd.prog 51 = true := by kernel_rfl
theorem zo51 : tyZ1 Tryd.prog 51 = some ((.int .u64 0)) := by kernel_rfl
theorem kt51 : tyKsT Tryd.prog 51 = [none] := by kernel_rfl
theorem in51 : tyInt Tryd.prog 51 = some .u64 := by kernel_rfl
theorem bo51 : tyBool Tryd.prog 51 = false := by kernel_rfl
theorem st51 : tyStr Tryd.prog 51 = false := by kernel_rfl
theorem ze51 : tyZ Tryd.prog 51 = some [.val (.int .u64 0)] := by kernel_rfl
theorem nk52 : tyNil Tryd.prog 52 = some .func := by kernel_rfl
theorem ag52 : tyAgg Tryd.prog 52 = some false := by kernel_rfl
theorem sz52 : tySz Tryd.prog 52 = some 1 := by kernel_rfl
theorem by52 : tyBy Tryd.prog 52 = some 8 := by kernel_rfl
theorem un52 : (Tryd.prog.underlying 52).isSome = true := by kernel_rfl
theorem ni52 : tyNoIf Tryd.prog 52 = true := by kernel_rfl
theorem kt52 : tyKsT Tryd.prog 52 = [none] := by kernel_rfl
theorem bo52 : tyBool Tryd.prog 52 = false := by kernel_rfl
theorem st52 : tyStr Tryd.prog 52 = false := by kernel_rfl
theorem ze52 : tyZ Tryd.prog 52 = some [.val .nilFunc] := by kernel_rfl
theorem nk53 : tyNil Tryd.prog 53 = some .func := by kernel_rfl
theorem ag53 : tyAgg Tryd.prog 53 = some false := by kernel_rfl
theorem sz53 : tySz Tryd.prog 53 = some 1 := by kernel_rfl
theorem by53 : tyBy Tryd.prog 53 = some 8 := by kernel_rfl
theorem un53 : (Tryd.prog.underlying 53).isSome = true := by kernel_rfl
theorem ni53 : tyNoIf Tryd.prog 53 = true := by kernel_rfl
theorem kt53 : tyKsT Tryd.prog 53 = [none] := by kernel_rfl
theorem bo53 : tyBool Tryd.prog 53 = false := by kernel_rfl
theorem st53 : tyStr Tryd.prog 53 = false := by kernel_rfl
theorem ze53 : tyZ Tryd.prog 53 = some [.val .nilFunc] := by kernel_rfl
theorem nk55 : tyNil Tryd.prog 55 = some .func := by kernel_rfl
theorem ag55 : tyAgg Tryd.prog 55 = some false := by kernel_rfl
theorem sz55 : tySz Tryd.prog 55 = some 1 := by kernel_rfl
theorem by55 : tyBy Tryd.prog 55 = some 8 := by kernel_rfl
theorem un55 : (Tryd.prog.underlying 55).isSome = true := by kernel_rfl
theorem ni55 : tyNoIf Tryd.prog 55 = true := by kernel_rfl
theorem kt55 : tyKsT Tryd.prog 55 = [none] := by kernel_rfl
theorem bo55 : tyBool Tryd.prog 55 = false := by kernel_rfl
theorem st55 : tyStr Tryd.prog 55 = false := by kernel_rfl
theorem ze55 : tyZ Tryd.prog 55 = some [.val .nilFunc] := by kernel_rfl
theorem nk56 : tyNil Tryd.prog 56 = some .func := by kernel_rfl
theorem ag56 : tyAgg Tryd.prog 56 = some false := by kernel_rfl
theorem sz56 : tySz Tryd.prog 56 = some 1 := by kernel_rfl
theorem by56 : tyBy Tryd.prog 56 = some 8 := by kernel_rfl
theorem un56 : (Tryd.prog.underlying 56).isSome = true := by kernel_rfl
theorem ni56 : tyNoIf Tryd.prog 56 = true := by kernel_rfl
theorem kt56 : tyKsT Tryd.prog 56 = [none] := by kernel_rfl
theorem bo56 : tyBool Tryd.prog 56 = false := by kernel_rfl
theorem st56 : tyStr Tryd.prog 56 = false := by kernel_rfl
theorem ze56 : tyZ Tryd.prog 56 = some [.val .nilFunc] := by kernel_rfl
theorem nk57 : tyNil Tryd.prog 57 = some .func := by kernel_rfl
theorem ag57 : tyAgg Tryd.prog 57 = some false := by kernel_rfl
theorem sz57 : tySz Tryd.prog 57 = some 1 := by kernel_rfl
theorem by57 : tyBy Tryd.prog 57 = some 8 := by kernel_rfl
theorem un57 : (Tryd.prog.underlying 57).isSome = true := by kernel_rfl
theorem ni57 : tyNoIf Tryd.prog 57 = true := by kernel_rfl
theorem kt57 : tyKsT Tryd.prog 57 = [none] := by kernel_rfl
theorem bo57 : tyBool Tryd.prog 57 = false := by kernel_rfl
theorem st57 : tyStr Tryd.prog 57 = false := by kernel_rfl
theorem ze57 : tyZ Tryd.prog 57 = some [.val .nilFunc] := by kernel_rfl
theorem nk58 : tyNil Tryd.prog 58 = some .func := by kernel_rfl
theorem ag58 : tyAgg Tryd.prog 58 = some false := by kernel_rfl
theorem sz58 : tySz Tryd.prog 58 = some 1 := by kernel_rfl
theorem by58 : tyBy Tryd.prog 58 = some 8 := by kernel_rfl
theorem un58 : (Tryd.prog.underlying 58).isSome = true := by kernel_rfl
theorem ni58 : tyNoIf Tryd.prog 58 = true := by kernel_rfl
theorem kt58 : tyKsT Tryd.prog 58 = [none] := by kernel_rfl
theorem bo58 : tyBool Tryd.prog 58 = false := by kernel_rfl
theorem st58 : tyStr Tryd.prog 58 = false := by kernel_rfl
theorem ze58 : tyZ Tryd.prog 58 = some [.val .nilFunc] := by kernel_rfl
theorem nk59 : tyNil Tryd.prog 59 = some .func := by kernel_rfl
theorem ag59 : tyAgg Tryd.prog 59 = some false := by kernel_rfl
theorem sz59 : tySz Tryd.prog 59 = some 1 := by kernel_rfl
theorem by59 : tyBy Tryd.prog 59 = some 8 := by kernel_rfl
theorem un59 : (Tryd.prog.underlying 59).isSome = true := by kernel_rfl
theorem ni59 : tyNoIf Tryd.prog 59 = true := by kernel_rfl
theorem kt59 : tyKsT Tryd.prog 59 = [none] := by kernel_rfl
theorem bo59 : tyBool Tryd.prog 59 = false := by kernel_rfl
theorem st59 : tyStr Tryd.prog 59 = false := by kernel_rfl
theorem ze59 : tyZ Tryd.prog 59 = some [.val .nilFunc] := by kernel_rfl
theorem nk60 : tyNil Tryd.prog 60 = some .func := by kernel_rfl
theorem ag60 : tyAgg Tryd.prog 60 = some false := by kernel_rfl
theorem sz60 : tySz Tryd.prog 60 = some 1 := by kernel_rfl
theorem by60 : tyBy Tryd.prog 60 = some 8 := by kernel_rfl
theorem un60 : (Tryd.prog.underlying 60).isSome = true := by kernel_rfl
theorem ni60 : tyNoIf Tryd.prog 60 = true := by kernel_rfl
theorem kt60 : tyKsT Tryd.prog 60 = [none] := by kernel_rfl
theorem bo60 : tyBool Tryd.prog 60 = false := by kernel_rfl
theorem st60 : tyStr Tryd.prog 60 = false := by kernel_rfl
theorem ze60 : tyZ Tryd.prog 60 = some [.val .nilFunc] := by kernel_rfl
theorem nk61 : tyNil Tryd.prog 61 = some .slice := by kernel_rfl
theorem ag61 : tyAgg Tryd.prog 61 = some false := by kernel_rfl
theorem sz61 : tySz Tryd.prog 61 = some 1 := by kernel_rfl
theorem by61 : tyBy Tryd.prog 61 = some 24 := by kernel_rfl
theorem un61 : (Tryd.prog.underlying 61).isSome = true := by kernel_rfl
theorem ni61 : tyNoIf Tryd.prog 61 = true := by kernel_rfl
theorem zo61 : tyZ1 Tryd.prog 61 = some ((.slice none 0 0)) := by kernel_rfl
theorem ke61 : tyKsE Tryd.prog 61 = [none] := by kernel_rfl
theorem kt61 : tyKsT Tryd.prog 61 = [some 1] := by kernel_rfl
theorem el61 : tyEl Tryd.prog 61 = some 5 := by kernel_rfl
theorem bo61 : tyBool Tryd.prog 61 = false := by kernel_rfl
theorem st61 : tyStr Tryd.prog 61 = false := by kernel_rfl
theorem ze61 : tyZ Tryd.prog 61 = some [.val (.slice none 0 0)] := by kernel_rfl
theorem nk62 : tyNil Tryd.prog 62 = some .func := by kernel_rfl
theorem ag62 : tyAgg Tryd.prog 62 = some false := by kernel_rfl
theorem sz62 : tySz Tryd.prog 62 = some 1 := by kernel_rfl
theorem by62 : tyBy Tryd.prog 62 = some 8 := by kernel_rfl
theorem un62 : (Tryd.prog.underlying 62).isSome = true := by kernel_rfl
theorem ni62 : tyNoIf Tryd.prog 62 = true := by kernel_rfl
theorem kt62 : tyKsT Tryd.prog 62 = [none] := by kernel_rfl
theorem bo62 : tyBool Tryd.prog 62 = false := by kernel_rfl
theorem st62 : tyStr Tryd.prog 62 = false := by kernel_rfl
theorem ze62 : tyZ Tryd.prog 62 = some [.val .nilFunc] := by kernel_rfl
theorem nk63 : tyNil Tryd.prog 63 = some .slice := by kernel_rfl
theorem ag63 : tyAgg Tryd.prog 63 = some false := by kernel_rfl
theorem sz63 : tySz Tryd.prog 63 = some 1 := by kernel_rfl
theorem by63 : tyBy Tryd.prog 63 = some 24 := by kernel_rfl
theorem un63 : (Tryd.prog.underlying 63).isSome = true := by kernel_rfl
theorem ni63 : tyNoIf Tryd.prog 63 = true := by kernel_rfl
theorem zo63 : tyZ1 Tryd.prog 63 = some ((.slice none 0 0)) := by kernel_rfl
theorem ke63 : tyKsE Tryd.prog 63 = [some 2] := by kernel_rfl
theorem kt63 : tyKsT Tryd.prog 63 = [some 1] := by kernel_rfl
theorem el63 : tyEl Tryd.prog 63 = some 31 := by kernel_rfl
theorem bo63 : tyBool Tryd.prog 63 = false := by kernel_rfl
theorem st63 : tyStr Tryd.prog 63 = false := by kernel_rfl
theorem ze63 : tyZ Tryd.prog 63 = some [.val (.slice none 0 0)] := by kernel_rfl
theorem nk64 : tyNil Tryd.prog 64 = some .func := by kernel_rfl
theorem ag64 : tyAgg Tryd.prog 64 = some false := by kernel_rfl
theorem sz64 : tySz Tryd.prog 64 = some 1 := by kernel_rfl
theorem by64 : tyBy Tryd.prog 64 = some 8 := by kernel_rfl
theorem un64 : (Tryd.prog.underlying 64).isSome = true := by kernel_rfl
theorem ni64 : tyNoIf Tryd.prog 64 = true := by kernel_rfl
theorem kt64 : tyKsT Tryd.prog 64 = [none] := by kernel_rfl
theorem bo64 : tyBool Tryd.prog 64 = false := by kernel_rfl
theorem st64 : tyStr Tryd.prog 64 = false := by kernel_rfl
theorem ze64 : tyZ Tryd.prog 64 = some [.val .nilFunc] := by kernel_rfl
theorem nk65 : tyNil Tryd.prog 65 = some .func := by kernel_rfl
theorem ag65 : tyAgg Tryd.prog 65 = some false := by kernel_rfl
theorem sz65 : tySz Tryd.prog 65 = some 1 := by kernel_rfl
theorem by65 : tyBy Tryd.prog 65 = some 8 := by kernel_rfl
theorem un65 : (Tryd.prog.underlying 65).isSome = true := by kernel_rfl
theorem ni65 : tyNoIf Tryd.prog 65 = true := by kernel_rfl
theorem kt65 : tyKsT Tryd.prog 65 = [none] := by kernel_rfl
theorem bo65 : tyBool Tryd.prog 65 = false := by kernel_rfl
theorem st65 : tyStr Tryd.prog 65 = false := by kernel_rfl
theorem ze65 : tyZ Tryd.prog 65 = some [.val .nilFunc] := by kernel_rfl
theorem nk66 : tyNil Tryd.prog 66 = some .func := by kernel_rfl
theorem ag66 : tyAgg Tryd.prog 66 = some false := by kernel_rfl
theorem sz66 : tySz Tryd.prog 66 = some 1 := by kernel_rfl
theorem by66 : tyBy Tryd.prog 66 = some 8 := by kernel_rfl
theorem un66 : (Tryd.prog.underlying 66).isSome = true := by kernel_rfl
theorem ni66 : tyNoIf Tryd.prog 66 = true := by kernel_rfl
theorem kt66 : tyKsT Tryd.prog 66 = [none] := by kernel_rfl
theorem bo66 : tyBool Tryd.prog 66 = false := by kernel_rfl
theorem st66 : tyStr Tryd.prog 66 = false := by kernel_rfl
theorem ze66 : tyZ Tryd.prog 66 = some [.val .nilFunc] := by kernel_rfl
theorem ag67 : tyAgg Tryd.prog 67 = some false := by kernel_rfl
theorem sz67 : tySz Tryd.prog 67 = some 1 := by kernel_rfl
theorem by67 : tyBy Tryd.prog 67 = some 4 := by kernel_rfl
theorem un67 : (Tryd.prog.underlying 67).isSome = true := by kernel_rfl
theorem ni67 : tyNoIf Tryd.prog 67 = true := by kernel_rfl
theorem zo67 : tyZ1 Tryd.prog 67 = some ((.int .u32 0)) := by kernel_rfl
theorem kt67 : tyKsT Tryd.prog 67 = [none] := by kernel_rfl
theorem in67 : tyInt Tryd.prog 67 = some .u32 := by kernel_rfl
theorem bo67 : tyBool Tryd.prog 67 = false := by kernel_rfl
theorem st67 : tyStr Tryd.prog 67 = false := by kernel_rfl
theorem ze67 : tyZ Tryd.prog 67 = some [.val (.int .u32 0)] := by kernel_rfl
theorem nk68 : tyNil Tryd.prog 68 = some .func := by kernel_rfl
theorem ag68 : tyAgg Tryd.prog 68 = some false := by kernel_rfl
theorem sz68 : tySz Tryd.prog 68 = some 1 := by kernel_rfl
theorem by68 : tyBy Tryd.prog 68 = some 8 := by kernel_rfl
theorem un68 : (Tryd.prog.underlying 68).isSome = true := by kernel_rfl
theorem ni68 : tyNoIf Tryd.prog 68 = true := by kernel_rfl
theorem kt68 : tyKsT Tryd.prog 68 = [none] := by kernel_rfl
theorem bo68 : tyBool Tryd.prog 68 = false := by kernel_rfl
theorem st68 : tyStr Tryd.prog 68 = false := by kernel_rfl
theorem ze68 : tyZ Tryd.prog 68 = some [.val .nilFunc] := by kernel_rfl
theorem nk69 : tyNil Tryd.prog 69 = some .func := by kernel_rfl
theorem ag69 : tyAgg Tryd.prog 69 = some false := by kernel_rfl
theorem sz69 : tySz Tryd.prog 69 = some 1 := by kernel_rfl
theorem by69 : tyBy Tryd.prog 69 = some 8 := by kernel_rfl
theorem un69 : (Tryd.prog.underlying 69).isSome = true := by kernel_rfl
theorem ni69 : tyNoIf Tryd.prog 69 = true := by kernel_rfl
theorem kt69 : tyKsT Tryd.prog 69 = [none] := by kernel_rfl
theorem bo69 : tyBool Tryd.prog 69 = false := by kernel_rfl
theorem st69 : tyStr Tryd.prog 69 = false := by kernel_rfl
theorem ze69 : tyZ Tryd.prog 69 = some [.val .nilFunc] := by kernel_rfl
theorem nk70 : tyNil Tryd.prog 70 = some .func := by kernel_rfl
theorem ag70 : tyAgg Tryd.prog 70 = some false := by kernel_rfl
theorem sz70 : tySz Tryd.prog 70 = some 1 := by kernel_rfl
theorem by70 : tyBy Tryd.prog 70 = some 8 := by kernel_rfl
theorem un70 : (Tryd.prog.underlying 70).isSome = true := by kernel_rfl
theorem ni70 : tyNoIf Tryd.prog 70 = true := by kernel_rfl
theorem kt70 : tyKsT Tryd.prog 70 = [none] := by kernel_rfl
theorem bo70 : tyBool Tryd.prog 70 = false := by kernel_rfl
theorem st70 : tyStr Tryd.prog 70 = false := by kernel_rfl
theorem ze70 : tyZ Tryd.prog 70 = some [.val .nilFunc] := by kernel_rfl
theorem nk71 : tyNil Tryd.prog 71 = some .func := by kernel_rfl
theorem ag71 : tyAgg Tryd.prog 71 = some false := by kernel_rfl
theorem sz71 : tySz Tryd.prog 71 = some 1 := by kernel_rfl
theorem by71 : tyBy Tryd.prog 71 = some 8 := by kernel_rfl
theorem un71 : (Tryd.prog.underlying 71).isSome = true := by kernel_rfl
theorem ni71 : tyNoIf Tryd.prog 71 = true := by kernel_rfl
theorem kt71 : tyKsT Tryd.prog 71 = [none] := by kernel_rfl
theorem bo71 : tyBool Tryd.prog 71 = false := by kernel_rfl
theorem st71 : tyStr Tryd.prog 71 = false := by kernel_rfl
theorem ze71 : tyZ Tryd.prog 71 = some [.val .nilFunc] := by kernel_rfl
theorem nk72 : tyNil Tryd.prog 72 = some .func := by kernel_rfl
theorem ag72 : tyAgg Tryd.prog 72 = some false := by kernel_rfl
theorem sz72 : tySz Tryd.prog 72 = some 1 := by kernel_rfl
theorem by72 : tyBy Tryd.prog 72 = some 8 := by kernel_rfl
theorem un72 : (Tryd.prog.underlying 72).isSome = true := by kernel_rfl
theorem ni72 : tyNoIf Tryd.prog 72 = true := by kernel_rfl
theorem kt72 : tyKsT Tryd.prog 72 = [none] := by kernel_rfl
theorem bo72 : tyBool Tryd.prog 72 = false := by kernel_rfl
theorem st72 : tyStr Tryd.prog 72 = false := by kernel_rfl
theorem ze72 : tyZ Tryd.prog 72 = some [.val .nilFunc] := by kernel_rfl
theorem nk73 : tyNil Tryd.prog 73 = some .func := by kernel_rfl
theorem ag73 : tyAgg Tryd.prog 73 = some false := by kernel_rfl
theorem sz73 : tySz Tryd.prog 73 = some 1 := by kernel_rfl
theorem by73 : tyBy Tryd.prog 73 = some 8 := by kernel_rfl
theorem un73 : (Tryd.prog.underlying 73).isSome = true := by kernel_rfl
theorem ni73 : tyNoIf Tryd.prog 73 = true := by kernel_rfl
theorem kt73 : tyKsT Tryd.prog 73 = [none] := by kernel_rfl
theorem bo73 : tyBool Tryd.prog 73 = false := by kernel_rfl
theorem st73 : tyStr Tryd.prog 73 = false := by kernel_rfl
theorem ze73 : tyZ Tryd.prog 73 = some [.val .nilFunc] := by kernel_rfl
theorem nk77 : tyNil Tryd.prog 77 = some .func := by kernel_rfl
theorem ag77 : tyAgg Tryd.prog 77 = some false := by kernel_rfl
theorem sz77 : tySz Tryd.prog 77 = some 1 := by kernel_rfl
theorem by77 : tyBy Tryd.prog 77 = some 8 := by kernel_rfl
theorem un77 : (Tryd.prog.underlying 77).isSome = true := by kernel_rfl
theorem ni77 : tyNoIf Tryd.prog 77 = true := by kernel_rfl
theorem kt77 : tyKsT Tryd.prog 77 = [none] := by kernel_rfl
theorem bo77 : tyBool Tryd.prog 77 = false := by kernel_rfl
theorem st77 : tyStr Tryd.prog 77 = false := by kernel_rfl
theorem ze77 : tyZ Tryd.prog 77 = some [.val .nilFunc] := by kernel_rfl
theorem nk78 : tyNil Tryd.prog 78 = some .func := by kernel_rfl
theorem ag78 : tyAgg Tryd.prog 78 = some false := by kernel_rfl
theorem sz78 : tySz Tryd.prog 78 = some 1 := by kernel_rfl
theorem by78 : tyBy Tryd.prog 78 = some 8 := by kernel_rfl
theorem un78 : (Tryd.prog.underlying 78).isSome = true := by kernel_rfl
theorem ni78 : tyNoIf Tryd.prog 78 = true := by kernel_rfl
theorem kt78 : tyKsT Tryd.prog 78 = [none] := by kernel_rfl
theorem bo78 : tyBool Tryd.prog 78 = false := by kernel_rfl
theorem st78 : tyStr Tryd.prog 78 = false := by kernel_rfl
theorem ze78 : tyZ Tryd.prog 78 = some [.val .nilFunc] := by kernel_rfl
theorem nk79 : tyNil Tryd.prog 79 = some .pointer := by kernel_rfl
theorem ag79 : tyAgg Tryd.prog 79 = some false := by kernel_rfl
theorem sz79 : tySz Tryd.prog 79 = some 1 := by kernel_rfl
theorem by79 : tyBy Tryd.prog 79 = some 8 := by kernel_rfl
theorem un79 : (Tryd.prog.underlying 79).isSome = true := by kernel_rfl
theorem ni79 : tyNoIf Tryd.prog 79 = true := by kernel_rfl
theorem zo79 : tyZ1 Tryd.prog 79 = some ((.pointer none)) := by kernel_rfl
theorem kt79 : tyKsT Tryd.prog 79 = [none] := by kernel_rfl
theorem bo79 : tyBool Tryd.prog 79 = false := by kernel_rfl
theorem st79 : tyStr Tryd.prog 79 = false := by kernel_rfl
theorem ze79 : tyZ Tryd.prog 79 = some [.val (.pointer none)] := by kernel_rfl
theorem nk82 : tyNil Tryd.prog 82 = some .func := by kernel_rfl
theorem ag82 : tyAgg Tryd.prog 82 = some false := by kernel_rfl
theorem sz82 : tySz Tryd.prog 82 = some 1 := by kernel_rfl
theorem by82 : tyBy Tryd.prog 82 = some 8 := by kernel_rfl
theorem un82 : (Tryd.prog.underlying 82).isSome = true := by kernel_rfl
theorem ni82 : tyNoIf Tryd.prog 82 = true := by kernel_rfl
theorem kt82 : tyKsT Tryd.prog 82 = [none] := by kernel_rfl
theorem bo82 : tyBool Tryd.prog 82 = false := by kernel_rfl
theorem st82 : tyStr Tryd.prog 82 = false := by kernel_rfl
theorem ze82 : tyZ Tryd.prog 82 = some [.val .nilFunc] := by kernel_rfl
theorem nk84 : tyNil Tryd.prog 84 = some .func := by kernel_rfl
theorem ag84 : tyAgg Tryd.prog 84 = some false := by kernel_rfl
theorem sz84 : tySz Tryd.prog 84 = some 1 := by kernel_rfl
theorem by84 : tyBy Tryd.prog 84 = some 8 := by kernel_rfl
theorem un84 : (Tryd.prog.underlying 84).isSome = true := by kernel_rfl
theorem ni84 : tyNoIf Tryd.prog 84 = true := by kernel_rfl
theorem kt84 : tyKsT Tryd.prog 84 = [none] := by kernel_rfl
theorem bo84 : tyBool Tryd.prog 84 = false := by kernel_rfl
theorem st84 : tyStr Tryd.prog 84 = false := by kernel_rfl
theorem ze84 : tyZ Tryd.prog 84 = some [.val .nilFunc] := by kernel_rfl
theorem nk85 : tyNil Tryd.prog 85 = some .func := by kernel_rfl
theorem ag85 : tyAgg Tryd.prog 85 = some false := by kernel_rfl
theorem sz85 : tySz Tryd.prog 85 = some 1 := by kernel_rfl
theorem by85 : tyBy Tryd.prog 85 = some 8 := by kernel_rfl
theorem un85 : (Tryd.prog.underlying 85).isSome = true := by kernel_rfl
theorem ni85 : tyNoIf Tryd.prog 85 = true := by kernel_rfl
theorem kt85 : tyKsT Tryd.prog 85 = [none] := by kernel_rfl
theorem bo85 : tyBool Tryd.prog 85 = false := by kernel_rfl
theorem st85 : tyStr Tryd.prog 85 = false := by kernel_rfl
theorem ze85 : tyZ Tryd.prog 85 = some [.val .nilFunc] := by kernel_rfl
theorem nk86 : tyNil Tryd.prog 86 = some .func := by kernel_rfl
theorem ag86 : tyAgg Tryd.prog 86 = some false := by kernel_rfl
theorem sz86 : tySz Tryd.prog 86 = some 1 := by kernel_rfl
theorem by86 : tyBy Tryd.prog 86 = some 8 := by kernel_rfl
theorem un86 : (Tryd.prog.underlying 86).isSome = true := by kernel_rfl
theorem ni86 : tyNoIf Tryd.prog 86 = true := by kernel_rfl
theorem kt86 : tyKsT Tryd.prog 86 = [none] := by kernel_rfl
theorem bo86 : tyBool Tryd.prog 86 = false := by kernel_rfl
theorem st86 : tyStr Tryd.prog 86 = false := by kernel_rfl
theorem ze86 : tyZ Tryd.prog 86 = some [.val .nilFunc] := by kernel_rfl
theorem nk87 : tyNil Tryd.prog 87 = some .func := by kernel_rfl
theorem ag87 : tyAgg Tryd.prog 87 = some false := by kernel_rfl
theorem sz87 : tySz Tryd.prog 87 = some 1 := by kernel_rfl
theorem by87 : tyBy Tryd.prog 87 = some 8 := by kernel_rfl
theorem un87 : (Tryd.prog.underlying 87).isSome = true := by kernel_rfl
theorem ni87 : tyNoIf Tryd.prog 87 = true := by kernel_rfl
theorem kt87 : tyKsT Tryd.prog 87 = [none] := by kernel_rfl
theorem bo87 : tyBool Tryd.prog 87 = false := by kernel_rfl
theorem st87 : tyStr Tryd.prog 87 = false := by kernel_rfl
theorem ze87 : tyZ Tryd.prog 87 = some [.val .nilFunc] := by kernel_rfl
theorem ag89 : tyAgg Tryd.prog 89 = some true := by kernel_rfl
theorem sz89 : tySz Tryd.prog 89 = some 2 := by kernel_rfl
theorem by89 : tyBy Tryd.prog 89 = some 2 := by kernel_rfl
theorem un89 : (Tryd.prog.underlying 89).isSome = true := by kernel_rfl
theorem ni89 : tyNoIf Tryd.prog 89 = true := by kernel_rfl
theorem kt89 : tyKsT Tryd.prog 89 = [none, none] := by kernel_rfl
theorem bo89 : tyBool Tryd.prog 89 = false := by kernel_rfl
theorem st89 : tyStr Tryd.prog 89 = false := by kernel_rfl
theorem ze89 : tyZ Tryd.prog 89 = some [.val (.int .u8 0), .val (.int .u8 0)] := by kernel_rfl
theorem fi89 : tyF Tryd.prog 89 = some [(0, 1), (1, 1)] := by kernel_rfl
theorem fa89_0 : tyFA Tryd.prog 89 0 = some 0 := by kernel_rfl
theorem ft89_0 : tyFT Tryd.prog 89 0 = some (0, 5) := by kernel_rfl
theorem fa89_1 : tyFA Tryd.prog 89 1 = some 1 := by kernel_rfl
theorem ft89_1 : tyFT Tryd.prog 89 1 = some (1, 5) := by kernel_rfl
theorem ag90 : tyAgg Tryd.prog 90 = some true := by kernel_rfl
theorem sz90 : tySz Tryd.prog 90 = some 2 := by kernel_rfl
theorem by90 : tyBy Tryd.prog 90 = some 2 := by kernel_rfl
theorem un90 : (Tryd.prog.underlying 90).isSome = true := by kernel_rfl
theorem ni90 : tyNoIf Tryd.prog 90 = true := by kernel_rfl
theorem kt90 : tyKsT Tryd.prog 90 = [none, none] := by kernel_rfl
theorem bo90 : tyBool Tryd.prog 90 = false := by kernel_rfl
theorem st90 : tyStr Tryd.prog 90 = false := by kernel_rfl
theorem ze90 : tyZ Tryd.prog 90 = some [.val (.int .u8 0), .val (.int .u8 0)] := by kernel_rfl
theorem fi90 : tyF Tryd.prog 90 = some [(0, 1), (1, 1)] := by kernel_rfl
theorem fa90_0 : tyFA Tryd.prog 90 0 = some 0 := by kernel_rfl
theorem ft90_0 : tyFT Tryd.prog 90 0 = some (0, 5) := by kernel_rfl
theorem fa90_1 : tyFA Tryd.prog 90 1 = some 1 := by kernel_rfl
theorem ft90_1 : tyFT Tryd.prog 90 1 = some (1, 5) := by kernel_rfl
theorem nk92 : tyNil Tryd.prog 92 = some .func := by kernel_rfl
theorem ag92 : tyAgg Tryd.prog 92 = some false := by kernel_rfl
theorem sz92 : tySz Tryd.prog 92 = some 1 := by kernel_rfl
theorem by92 : tyBy Tryd.prog 92 = some 8 := by kernel_rfl
theorem un92 : (Tryd.prog.underlying 92).isSome = true := by kernel_rfl
theorem ni92 : tyNoIf Tryd.prog 92 = true := by kernel_rfl
theorem kt92 : tyKsT Tryd.prog 92 = [none] := by kernel_rfl
theorem bo92 : tyBool Tryd.prog 92 = false := by kernel_rfl
theorem st92 : tyStr Tryd.prog 92 = false := by kernel_rfl
theorem ze92 : tyZ Tryd.prog 92 = some [.val .nilFunc] := by kernel_rfl
theorem nk93 : tyNil Tryd.prog 93 = some .func := by kernel_rfl
theorem ag93 : tyAgg Tryd.prog 93 = some false := by kernel_rfl
theorem sz93 : tySz Tryd.prog 93 = some 1 := by kernel_rfl
theorem by93 : tyBy Tryd.prog 93 = some 8 := by kernel_rfl
theorem un93 : (Tryd.prog.underlying 93).isSome = true := by kernel_rfl
theorem ni93 : tyNoIf Tryd.prog 93 = true := by kernel_rfl
theorem kt93 : tyKsT Tryd.prog 93 = [none] := by kernel_rfl
theorem bo93 : tyBool Tryd.prog 93 = false := by kernel_rfl
theorem st93 : tyStr Tryd.prog 93 = false := by kernel_rfl
theorem ze93 : tyZ Tryd.prog 93 = some [.val .nilFunc] := by kernel_rfl
theorem nk94 : tyNil Tryd.prog 94 = some .func := by kernel_rfl
theorem ag94 : tyAgg Tryd.prog 94 = some false := by kernel_rfl
theorem sz94 : tySz Tryd.prog 94 = some 1 := by kernel_rfl
theorem by94 : tyBy Tryd.prog 94 = some 8 := by kernel_rfl
theorem un94 : (Tryd.prog.underlying 94).isSome = true := by kernel_rfl
theorem ni94 : tyNoIf Tryd.prog 94 = true := by kernel_rfl
theorem kt94 : tyKsT Tryd.prog 94 = [none] := by kernel_rfl
theorem bo94 : tyBool Tryd.prog 94 = false := by kernel_rfl
theorem st94 : tyStr Tryd.prog 94 = false := by kernel_rfl
theorem ze94 : tyZ Tryd.prog 94 = some [.val .nilFunc] := by kernel_rfl
theorem nk95 : tyNil Tryd.prog 95 = some .func := by kernel_rfl
theorem ag95 : tyAgg Tryd.prog 95 = some false := by kernel_rfl
theorem sz95 : tySz Tryd.prog 95 = some 1 := by kernel_rfl
theorem by95 : tyBy Tryd.prog 95 = some 8 := by kernel_rfl
theorem un95 : (Tryd.prog.underlying 95).isSome = true := by kernel_rfl
theorem ni95 : tyNoIf Tryd.prog 95 = true := by kernel_rfl
theorem kt95 : tyKsT Tryd.prog 95 = [none] := by kernel_rfl
theorem bo95 : tyBool Tryd.prog 95 = false := by kernel_rfl
theorem st95 : tyStr Tryd.prog 95 = false := by kernel_rfl
theorem ze95 : tyZ Tryd.prog 95 = some [.val .nilFunc] := by kernel_rfl
theorem ag96 : tyAgg Tryd.prog 96 = some true := by kernel_rfl
theorem sz96 : tySz Tryd.prog 96 = some 4 := by kernel_rfl
theorem by96 : tyBy Tryd.prog 96 = some 40 := by kernel_rfl
theorem un96 : (Tryd.prog.underlying 96).isSome = true := by kernel_rfl
theorem ni96 : tyNoIf Tryd.prog 96 = true := by kernel_rfl
theorem kt96 : tyKsT Tryd.prog 96 = [none, none, none, none] := by kernel_rfl
theorem bo96 : tyBool Tryd.prog 96 = false := by kernel_rfl
theorem st96 : tyStr Tryd.prog 96 = false := by kernel_rfl
theorem ze96 : tyZ Tryd.prog 96 = some [.val (.pointer none), .val (.pointer none), .val (.pointer none), .val (.string ⟨#[]⟩)] := by kernel_rfl
theorem fi96 : tyF Tryd.prog 96 = some [(0, 1), (1, 1), (2, 1), (3, 1)] := by kernel_rfl
theorem fa96_0 : tyFA Tryd.prog 96 0 = some 0 := by kernel_rfl
theorem ft96_0 : tyFT Tryd.prog 96 0 = some (0, 17) := by kernel_rfl
theorem fa96_1 : tyFA Tryd.prog 96 1 = some 1 := by kernel_rfl
theorem ft96_1 : tyFT Tryd.prog 96 1 = some (1, 17) := by kernel_rfl
theorem fa96_2 : tyFA Tryd.prog 96 2 = some 2 := by kernel_rfl
theorem ft96_2 : tyFT Tryd.prog 96 2 = some (2, 17) := by kernel_rfl
theorem fa96_3 : tyFA Tryd.prog 96 3 = some 3 := by kernel_rfl
theorem ft96_3 : tyFT Tryd.prog 96 3 = some (3, 9) := by kernel_rfl
theorem ag97 : tyAgg Tryd.prog 97 = some true := by kernel_rfl
theorem sz97 : tySz Tryd.prog 97 = some 4 := by kernel_rfl
theorem by97 : tyBy Tryd.prog 97 = some 40 := by kernel_rfl
theorem un97 : (Tryd.prog.underlying 97).isSome = true := by kernel_rfl
theorem ni97 : tyNoIf Tryd.prog 97 = true := by kernel_rfl
theorem kt97 : tyKsT Tryd.prog 97 = [none, none, none, none] := by kernel_rfl
theorem bo97 : tyBool Tryd.prog 97 = false := by kernel_rfl
theorem st97 : tyStr Tryd.prog 97 = false := by kernel_rfl
theorem ze97 : tyZ Tryd.prog 97 = some [.val (.pointer none), .val (.pointer none), .val (.pointer none), .val (.string ⟨#[]⟩)] := by kernel_rfl
theorem fi97 : tyF Tryd.prog 97 = some [(0, 1), (1, 1), (2, 1), (3, 1)] := by kernel_rfl
theorem fa97_0 : tyFA Tryd.prog 97 0 = some 0 := by kernel_rfl
theorem ft97_0 : tyFT Tryd.prog 97 0 = some (0, 17) := by kernel_rfl
theorem fa97_1 : tyFA Tryd.prog 97 1 = some 1 := by kernel_rfl
theorem ft97_1 : tyFT Tryd.prog 97 1 = some (1, 17) := by kernel_rfl
theorem fa97_2 : tyFA Tryd.prog 97 2 = some 2 := by kernel_rfl
theorem ft97_2 : tyFT Tryd.prog 97 2 = some (2, 17) := by kernel_rfl
theorem fa97_3 : tyFA Tryd.prog 97 3 = some 3 := by kernel_rfl
theorem ft97_3 : tyFT Tryd.prog 97 3 = some (3, 9) := by kernel_rfl
theorem ag99 : tyAgg Tryd.prog 99 = some true := by kernel_rfl
theorem sz99 : tySz Tryd.prog 99 = some 0 := by kernel_rfl
theorem by99 : tyBy Tryd.prog 99 = some 0 := by kernel_rfl
theorem un99 : (Tryd.prog.underlying 99).isSome = true := by kernel_rfl
theorem ni99 : tyNoIf Tryd.prog 99 = true := by kernel_rfl
theorem kt99 : tyKsT Tryd.prog 99 = [] := by kernel_rfl
theorem bo99 : tyBool Tryd.prog 99 = false := by kernel_rfl
theorem st99 : tyStr Tryd.prog 99 = false := by kernel_rfl
theorem ze99 : tyZ Tryd.prog 99 = some [] := by kernel_rfl
theorem fi99 : tyF Tryd.prog 99 = some [(0, 0)] := by kernel_rfl
theorem ft99_0 : tyFT Tryd.prog 99 0 = some (0, 98) := by kernel_rfl
theorem ag100 : tyAgg Tryd.prog 100 = some true := by kernel_rfl
theorem sz100 : tySz Tryd.prog 100 = some 0 := by kernel_rfl
theorem by100 : tyBy Tryd.prog 100 = some 0 := by kernel_rfl
theorem un100 : (Tryd.prog.underlying 100).isSome = true := by kernel_rfl
theorem ni100 : tyNoIf Tryd.prog 100 = true := by kernel_rfl
theorem kt100 : tyKsT Tryd.prog 100 = [] := by kernel_rfl
theorem bo100 : tyBool Tryd.prog 100 = false := by kernel_rfl
theorem st100 : tyStr Tryd.prog 100 = false := by kernel_rfl
theorem ze100 : tyZ Tryd.prog 100 = some [] := by kernel_rfl
theorem fi100 : tyF Tryd.prog 100 = some [(0, 0)] := by kernel_rfl
theorem ft100_0 : tyFT Tryd.prog 100 0 = some (0, 98) := by kernel_rfl
theorem nk101 : tyNil Tryd.prog 101 = some .func := by kernel_rfl
theorem ag101 : tyAgg Tryd.prog 101 = some false := by kernel_rfl
theorem sz101 : tySz Tryd.prog 101 = some 1 := by kernel_rfl
theorem by101 : tyBy Tryd.prog 101 = some 8 := by kernel_rfl
theorem un101 : (Tryd.prog.underlying 101).isSome = true := by kernel_rfl
theorem ni101 : tyNoIf Tryd.prog 101 = true := by kernel_rfl
theorem kt101 : tyKsT Tryd.prog 101 = [none] := by kernel_rfl
theorem bo101 : tyBool Tryd.prog 101 = false := by kernel_rfl
theorem st101 : tyStr Tryd.prog 101 = false := by kernel_rfl
theorem ze101 : tyZ Tryd.prog 101 = some [.val .nilFunc] := by kernel_rfl
theorem ag102 : tyAgg Tryd.prog 102 = some false := by kernel_rfl
theorem sz102 : tySz Tryd.prog 102 = some 1 := by kernel_rfl
theorem by102 : tyBy Tryd.prog 102 = some 1 := by kernel_rfl
theorem un102 : (Tryd.prog.underlying 102).isSome = true := by kernel_rfl
theorem ni102 : tyNoIf Tryd.prog 102 = true := by kernel_rfl
theorem zo102 : tyZ1 Tryd.prog 102 = some ((.int .u8 0)) := by kernel_rfl
theorem kt102 : tyKsT Tryd.prog 102 = [none] := by kernel_rfl
theorem in102 : tyInt Tryd.prog 102 = some .u8 := by kernel_rfl
theorem bo102 : tyBool Tryd.prog 102 = false := by kernel_rfl
theorem st102 : tyStr Tryd.prog 102 = false := by kernel_rfl
theorem ze102 : tyZ Tryd.prog 102 = some [.val (.int .u8 0)] := by kernel_rfl
theorem ag103 : tyAgg Tryd.prog 103 = some false := by kernel_rfl
theorem sz103 : tySz Tryd.prog 103 = some 1 := by kernel_rfl
theorem by103 : tyBy Tryd.prog 103 = some 1 := by kernel_rfl
theorem un103 : (Tryd.prog.underlying 103).isSome = true := by kernel_rfl
theorem ni103 : tyNoIf Tryd.prog 103 = true := by kernel_rfl
theorem zo103 : tyZ1 Tryd.prog 103 = some ((.int .u8 0)) := by kernel_rfl
theorem kt103 : tyKsT Tryd.prog 103 = [none] := by kernel_rfl
theorem in103 : tyInt Tryd.prog 103 = some .u8 := by kernel_rfl
theorem bo103 : tyBool Tryd.prog 103 = false := by kernel_rfl
theorem st103 : tyStr Tryd.prog 103 = false := by kernel_rfl
theorem ze103 : tyZ Tryd.prog 103 = some [.val (.int .u8 0)] := by kernel_rfl
theorem nk104 : tyNil Tryd.prog 104 = some .func := by kernel_rfl
theorem ag104 : tyAgg Tryd.prog 104 = some false := by kernel_rfl
theorem sz104 : tySz Tryd.prog 104 = some 1 := by kernel_rfl
theorem by104 : tyBy Tryd.prog 104 = some 8 := by kernel_rfl
theorem un104 : (Tryd.prog.underlying 104).isSome = true := by kernel_rfl
theorem ni104 : tyNoIf Tryd.prog 104 = true := by kernel_rfl
theorem kt104 : tyKsT Tryd.prog 104 = [none] := by kernel_rfl
theorem bo104 : tyBool Tryd.prog 104 = false := by kernel_rfl
theorem st104 : tyStr Tryd.prog 104 = false := by kernel_rfl
theorem ze104 : tyZ Tryd.prog 104 = some [.val .nilFunc] := by kernel_rfl
theorem nk105 : tyNil Tryd.prog 105 = some .pointer := by kernel_rfl
theorem ag105 : tyAgg Tryd.prog 105 = some false := by kernel_rfl
theorem sz105 : tySz Tryd.prog 105 = some 1 := by kernel_rfl
theorem by105 : tyBy Tryd.prog 105 = some 8 := by kernel_rfl
theorem un105 : (Tryd.prog.underlying 105).isSome = true := by kernel_rfl
theorem ni105 : tyNoIf Tryd.prog 105 = true := by kernel_rfl
theorem zo105 : tyZ1 Tryd.prog 105 = some ((.pointer none)) := by kernel_rfl
theorem kt105 : tyKsT Tryd.prog 105 = [none] := by kernel_rfl
theorem bo105 : tyBool Tryd.prog 105 = false := by kernel_rfl
theorem st105 : tyStr Tryd.prog 105 = false := by kernel_rfl
theorem ze105 : tyZ Tryd.prog 105 = some [.val (.pointer none)] := by kernel_rfl
theorem ag106 : tyAgg Tryd.prog 106 = some false := by kernel_rfl
theorem sz106 : tySz Tryd.prog 106 = some 1 := by kernel_rfl
theorem by106 : tyBy Tryd.prog 106 = some 4 := by kernel_rfl
theorem un106 : (Tryd.prog.underlying 106).isSome = true := by kernel_rfl
theorem ni106 : tyNoIf Tryd.prog 106 = true := by kernel_rfl
theorem zo106 : tyZ1 Tryd.prog 106 = some ((.int .i32 0)) := by kernel_rfl
theorem kt106 : tyKsT Tryd.prog 106 = [none] := by kernel_rfl
theorem in106 : tyInt Tryd.prog 106 = some .i32 := by kernel_rfl
theorem bo106 : tyBool Tryd.prog 106 = false := by kernel_rfl
theorem st106 : tyStr Tryd.prog 106 = false := by kernel_rfl
theorem ze106 : tyZ Tryd.prog 106 = some [.val (.int .i32 0)] := by kernel_rfl
theorem ag107 : tyAgg Tryd.prog 107 = some false := by kernel_rfl
theorem sz107 : tySz Tryd.prog 107 = some 1 := by kernel_rfl
theorem by107 : tyBy Tryd.prog 107 = some 4 := by kernel_rfl
theorem un107 : (Tryd.prog.underlying 107).isSome = true := by kernel_rfl
theorem ni107 : tyNoIf Tryd.prog 107 = true := by kernel_rfl
theorem zo107 : tyZ1 Tryd.prog 107 = some ((.int .i32 0)) := by kernel_rfl
theorem kt107 : tyKsT Tryd.prog 107 = [none] := by kernel_rfl
theorem in107 : tyInt Tryd.prog 107 = some .i32 := by kernel_rfl
theorem bo107 : tyBool Tryd.prog 107 = false := by kernel_rfl
theorem st107 : tyStr Tryd.prog 107 = false := by kernel_rfl
theorem ze107 : tyZ Tryd.prog 107 = some [.val (.int .i32 0)] := by kernel_rfl
theorem ag108 : tyAgg Tryd.prog 108 = some true := by kernel_rfl
theorem sz108 : tySz Tryd.prog 108 = some 11 := by kernel_rfl
theorem by108 : tyBy Tryd.prog 108 = some 48 := by kernel_rfl
theorem un108 : (Tryd.prog.underlying 108).isSome = true := by kernel_rfl
theorem ni108 : tyNoIf Tryd.prog 108 = true := by kernel_rfl
theorem kt108 : tyKsT Tryd.prog 108 = [none, none, none, none, none, none, none, none, none, none, none] := by kernel_rfl
theorem bo108 : tyBool Tryd.prog 108 = false := by kernel_rfl
theorem st108 : tyStr Tryd.prog 108 = false := by kernel_rfl
theorem ze108 : tyZ Tryd.prog 108 = some [.val (.int .u64 0), .val (.int .u64 0), .val (.int .u32 0), .val (.int .u8 0), .val (.int .u8 0), .val (.int .u8 0), .val (.int .u8 0), .val .nilFunc, .val (.pointer none), .val (.int .i32 0), .val (.int .i32 0)] := by kernel_rfl
theorem fi108 : tyF Tryd.prog 108 = some [(0, 1), (1, 1), (2, 1), (3, 1), (4, 1), (5, 1), (6, 1), (7, 1), (8, 1), (9, 1), (10, 1)] := by kernel_rfl
theorem fa108_0 : tyFA Tryd.prog 108 0 = some 0 := by kernel_rfl
theorem ft108_0 : tyFT Tryd.prog 108 0 = some (0, 12) := by kernel_rfl
theorem fa108_1 : tyFA Tryd.prog 108 1 = some 1 := by kernel_rfl
theorem ft108_1 : tyFT Tryd.prog 108 1 = some (1, 12) := by kernel_rfl
theorem fa108_2 : tyFA Tryd.prog 108 2 = some 2 := by kernel_rfl
theorem ft108_2 : tyFT Tryd.prog 108 2 = some (2, 67) := by kernel_rfl
theorem fa108_3 : tyFA Tryd.prog 108 3 = some 3 := by kernel_rfl
theorem ft108_3 : tyFT Tryd.prog 108 3 = some (3, 102) := by kernel_rfl
theorem fa108_4 : tyFA Tryd.prog 108 4 = some 4 := by kernel_rfl
theorem ft108_4 : tyFT Tryd.prog 108 4 = some (4, 5) := by kernel_rfl
theorem fa108_5 : tyFA Tryd.prog 108 5 = some 5 := by kernel_rfl
theorem ft108_5 : tyFT Tryd.prog 108 5 = some (5, 5) := by kernel_rfl
theorem fa108_6 : tyFA Tryd.prog 108 6 = some 6 := by kernel_rfl
theorem ft108_6 : tyFT Tryd.prog 108 6 = some (6, 103) := by kernel_rfl
theorem fa108_7 : tyFA Tryd.prog 108 7 = some 7 := by kernel_rfl
theorem ft108_7 : tyFT Tryd.prog 108 7 = some (7, 104) := by kernel_rfl
theorem fa108_8 : tyFA Tryd.prog 108 8 = some 8 := by kernel_rfl
theorem ft108_8 : tyFT Tryd.prog 108 8 = some (8, 105) := by kernel_rfl
theorem fa108_9 : tyFA Tryd.prog 108 9 = some 9 := by kernel_rfl
theorem ft108_9 : tyFT Tryd.prog 108 9 = some (9, 106) := by kernel_rfl
theorem fa108_10 : tyFA Tryd.prog 108 10 = some 10 := by kernel_rfl
theorem ft108_10 : tyFT Tryd.prog 108 10 = some (10, 107) := by kernel_rfl
theorem ag109 : tyAgg Tryd.prog 109 = some true := by kernel_rfl
theorem sz109 : tySz Tryd.prog 109 = some 11 := by kernel_rfl
theorem by109 : tyBy Tryd.prog 109 = some 48 := by kernel_rfl
theorem un109 : (Tryd.prog.underlying 109).isSome = true := by kernel_rfl
theorem ni109 : tyNoIf Tryd.prog 109 = true := by kernel_rfl
theorem kt109 : tyKsT Tryd.prog 109 = [none, none, none, none, none, none, none, none, none, none, none] := by kernel_rfl
theorem bo109 : tyBool Tryd.prog 109 = false := by kernel_rfl
theorem st109 : tyStr Tryd.prog 109 = false := by kernel_rfl
theorem ze109 : tyZ Tryd.prog 109 = some [.val (.int .u64 0), .val (.int .u64 0), .val (.int .u32 0), .val (.int .u8 0), .val (.int .u8 0), .val (.int .u8 0), .val (.int .u8 0), .val .nilFunc, .val (.pointer none), .val (.int .i32 0), .val (.int .i32 0)] := by kernel_rfl
theorem fi109 : tyF Tryd.prog 109 = some [(0, 1), (1, 1), (2, 1), (3, 1), (4, 1), (5, 1), (6, 1), (7, 1), (8, 1), (9, 1), (10, 1)] := by kernel_rfl
theorem fa109_0 : tyFA Tryd.prog 109 0 = some 0 := by kernel_rfl
theorem ft109_0 : tyFT Tryd.prog 109 0 = some (0, 12) := by kernel_rfl
theorem fa109_1 : tyFA Tryd.prog 109 1 = some 1 := by kernel_rfl
theorem ft109_1 : tyFT Tryd.prog 109 1 = some (1, 12) := by kernel_rfl
theorem fa109_2 : tyFA Tryd.prog 109 2 = some 2 := by kernel_rfl
theorem ft109_2 : tyFT Tryd.prog 109 2 = some (2, 67) := by kernel_rfl
theorem fa109_3 : tyFA Tryd.prog 109 3 = some 3 := by kernel_rfl
theorem ft109_3 : tyFT Tryd.prog 109 3 = some (3, 102) := by kernel_rfl
theorem fa109_4 : tyFA Tryd.prog 109 4 = some 4 := by kernel_rfl
theorem ft109_4 : tyFT Tryd.prog 109 4 = some (4, 5) := by kernel_rfl
theorem fa109_5 : tyFA Tryd.prog 109 5 = some 5 := by kernel_rfl
theorem ft109_5 : tyFT Tryd.prog 109 5 = some (5, 5) := by kernel_rfl
theorem fa109_6 : tyFA Tryd.prog 109 6 = some 6 := by kernel_rfl
theorem ft109_6 : tyFT Tryd.prog 109 6 = some (6, 103) := by kernel_rfl
theorem fa109_7 : tyFA Tryd.prog 109 7 = some 7 := by kernel_rfl
theorem ft109_7 : tyFT Tryd.prog 109 7 = some (7, 104) := by kernel_rfl
theorem fa109_8 : tyFA Tryd.prog 109 8 = some 8 := by kernel_rfl
theorem ft109_8 : tyFT Tryd.prog 109 8 = some (8, 105) := by kernel_rfl
theorem fa109_9 : tyFA Tryd.prog 109 9 = some 9 := by kernel_rfl
theorem ft109_9 : tyFT Tryd.prog 109 9 = some (9, 106) := by kernel_rfl
theorem fa109_10 : tyFA Tryd.prog 109 10 = some 10 := by kernel_rfl
theorem ft109_10 : tyFT Tryd.prog 109 10 = some (10, 107) := by kernel_rfl
theorem ag110 : tyAgg Tryd.prog 110 = some false := by kernel_rfl
theorem sz110 : tySz Tryd.prog 110 = some 1 := by kernel_rfl
theorem by110 : tyBy Tryd.prog 110 = some 8 := by kernel_rfl
theorem un110 : (Tryd.prog.underlying 110).isSome = true := by kernel_rfl
theorem ni110 : tyNoIf Tryd.prog 110 = true := by kernel_rfl
theorem kt110 : tyKsT Tryd.prog 110 = [none] := by kernel_rfl
theorem bo110 : tyBool Tryd.prog 110 = false := by kernel_rfl
theorem st110 : tyStr Tryd.prog 110 = false := by kernel_rfl
theorem ze110 : tyZ Tryd.prog 110 = some [.val (.pointer none)] := by kernel_rfl
theorem fo : Tryd.prog.follows .mixedOrders = true := by kernel_rfl
theorem ca3 : callable Tryd.prog 3 = true := by kernel_rfl
theorem ca4 : callable Tryd.prog 4 = true := by kernel_rfl
theorem ca5 : callable Tryd.prog 5 = true := by kernel_rfl
theorem ca6 : callable Tryd.prog 6 = true := by kernel_rfl
theorem ca7 : callable Tryd.prog 7 = true := by kernel_rfl
theorem ca8 : callable Tryd.prog 8 = true := by kernel_rfl
theorem ca9 : callable Tryd.prog 9 = true := by kernel_rfl
theorem ca10 : callable Tryd.prog 10 = true := by kernel_rfl
theorem ca11 : callable Tryd.prog 11 = true := by kernel_rfl
theorem ca12 : callable Tryd.prog 12 = true := by kernel_rfl
theorem ca13 : callable Tryd.prog 13 = true := by kernel_rfl
theorem ca14 : callable Tryd.prog 14 = true := by kernel_rfl
theorem ca15 : callable Tryd.prog 15 = true := by kernel_rfl
theorem ca16 : callable Tryd.prog 16 = true := by kernel_rfl
theorem ca17 : callable Tryd.prog 17 = true := by kernel_rfl
theorem ca18 : callable Tryd.prog 18 = true := by kernel_rfl
theorem ca19 : callable Tryd.prog 19 = true := by kernel_rfl
theorem ca20 : callable Tryd.prog 20 = true := by kernel_rfl
theorem ca21 : callable Tryd.prog 21 = true := by kernel_rfl
theorem ca22 : callable Tryd.prog 22 = true := by kernel_rfl
theorem ca23 : callable Tryd.prog 23 = true := by kernel_rfl
theorem ca24 : callable Tryd.prog 24 = true := by kernel_rfl
theorem ca25 : callable Tryd.prog 25 = true := by kernel_rfl
theorem ca26 : callable Tryd.prog 26 = true := by kernel_rfl
theorem ca27 : callable Tryd.prog 27 = true := by kernel_rfl
theorem ca28 : callable Tryd.prog 28 = true := by kernel_rfl
theorem ca29 : callable Tryd.prog 29 = true := by kernel_rfl
theorem ca30 : callable Tryd.prog 30 = true := by kernel_rfl
theorem ca31 : callable Tryd.prog 31 = true := by kernel_rfl
theorem ca32 : callable Tryd.prog 32 = true := by kernel_rfl
theorem ca33 : callable Tryd.prog 33 = true := by kernel_rfl
theorem ca34 : callable Tryd.prog 34 = true := by kernel_rfl
theorem ca35 : callable Tryd.prog 35 = true := by kernel_rfl
theorem ca36 : callable Tryd.prog 36 = true := by kernel_rfl
theorem ca37 : callable Tryd.prog 37 = true := by kernel_rfl
theorem ca38 : callable Tryd.prog 38 = true := by kernel_rfl
theorem ca39 : callable Tryd.prog 39 = true := by kernel_rfl
theorem ca41 : callable Tryd.prog 41 = true := by kernel_rfl
theorem ca42 : callable Tryd.prog 42 = true := by kernel_rfl
theorem ca43 : callable Tryd.prog 43 = true := by kernel_rfl
theorem ca44 : callable Tryd.prog 44 = true := by kernel_rfl
theorem ca45 : callable Tryd.prog 45 = true := by kernel_rfl
theorem ca46 : callable Tryd.prog 46 = true := by kernel_rfl
theorem ca47 : callable Tryd.prog 47 = true := by kernel_rfl
theorem ca48 : callable Tryd.prog 48 = true := by kernel_rfl
theorem ca50 : callable Tryd.prog 50 = true := by kernel_rfl
theorem ca51 : callable Tryd.prog 51 = true := by kernel_rfl
theorem ca52 : callable Tryd.prog 52 = true := by kernel_rfl
theorem ca53 : callable Tryd.prog 53 = true := by kernel_rfl
theorem ca54 : callable Tryd.prog 54 = true := by kernel_rfl
theorem ca55 : callable Tryd.prog 55 = true := by kernel_rfl
theorem ca56 : callable Tryd.prog 56 = true := by kernel_rfl
theorem ca57 : callable Tryd.prog 57 = true := by kernel_rfl
theorem ca58 : callable Tryd.prog 58 = true := by kernel_rfl
theorem ca59 : callable Tryd.prog 59 = true := by kernel_rfl
theorem ca60 : callable Tryd.prog 60 = true := by kernel_rfl
theorem ca61 : callable Tryd.prog 61 = true := by kernel_rfl
theorem ca63 : callable Tryd.prog 63 = true := by kernel_rfl
theorem tabs : ((((((((((type_of% @nk1) ∧ (type_of% @ag1)) ∧ ((type_of% @sz1) ∧ (type_of% @by1))) ∧ (((type_of% @un1) ∧ (type_of% @ni1)) ∧ ((type_of% @kt1) ∧ ((type_of% @bo1) ∧ (type_of% @st1))))) ∧ ((((type_of% @ze1) ∧ (type_of% @ag2)) ∧ ((type_of% @sz2) ∧ (type_of% @by2))) ∧ (((type_of% @un2) ∧ (type_of% @ni2)) ∧ ((type_of% @zo2) ∧ ((type_of% @kt2) ∧ (type_of% @in2)))))) ∧ (((((type_of% @bo2) ∧ (type_of% @st2)) ∧ ((type_of% @ze2) ∧ (type_of% @ag3))) ∧ (((type_of% @sz3) ∧ (type_of% @by3)) ∧ ((type_of% @un3) ∧ ((type_of% @ni3) ∧ (type_of% @zo3))))) ∧ ((((type_of% @kt3) ∧ (type_of% @in3)) ∧ ((type_of% @bo3) ∧ (type_of% @st3))) ∧ (((type_of% @ze3) ∧ (type_of% @ag4)) ∧ ((type_of% @sz4) ∧ ((type_of% @by4) ∧ (type_of% @un4))))))) ∧ ((((((type_of% @ni4) ∧ (type_of% @zo4)) ∧ ((type_of% @kt4) ∧ (type_of% @bo4))) ∧ (((type_of% @st4) ∧ (type_of% @ze4)) ∧ ((type_of% @ag5) ∧ ((type_of% @sz5) ∧ (type_of% @by5))))) ∧ ((((type_of% @un5) ∧ (type_of% @ni5)) ∧ ((type_of% @zo5) ∧ (type_of% @kt5))) ∧ (((type_of% @in5) ∧ (type_of% @bo5)) ∧ ((type_of% @st5) ∧ ((type_of% @ze5) ∧ (type_of% @ag6)))))) ∧ (((((type_of% @sz6) ∧ (type_of% @by6)) ∧ ((type_of% @un6) ∧ (type_of% @ni6))) ∧ (((type_of% @zo6) ∧ (type_of% @kt6)) ∧ ((type_of% @in6) ∧ ((type_of% @bo6) ∧ (type_of% @st6))))) ∧ ((((type_of% @ze6) ∧ (type_of% @ag7)) ∧ ((type_of% @sz7) ∧ ((type_of% @by7) ∧ (type_of% @un7)))) ∧ (((type_of% @ni7) ∧ (type_of% @kt7)) ∧ ((type_of% @bo7) ∧ ((type_of% @st7) ∧ (type_of% @ze7)))))))) ∧ (((((((type_of% @fi7) ∧ (type_of% @fa7_0)) ∧ ((type_of% @ft7_0) ∧ (type_of% @fa7_1))) ∧ (((type_of% @ft7_1) ∧ (type_of% @fa7_2)) ∧ ((type_of% @ft7_2) ∧ ((type_of% @fa7_3) ∧ (type_of% @ft7_3))))) ∧ ((((type_of% @ag8) ∧ (type_of% @sz8)) ∧ ((type_of% @by8) ∧ (type_of% @un8))) ∧ (((type_of% @ni8) ∧ (type_of% @kt8)) ∧ ((type_of% @bo8) ∧ ((type_of% @st8) ∧ (type_of% @ze8)))))) ∧ (((((type_of% @fi8) ∧ (type_of% @fa8_0)) ∧ ((type_of% @ft8_0) ∧ (type_of% @fa8_1))) ∧ (((type_of% @ft8_1) ∧ (type_of% @fa8_2)) ∧ ((type_of% @ft8_2) ∧ ((type_of% @fa8_3) ∧ (type_of% @ft8_3))))) ∧ ((((type_of% @ag9) ∧ (type_of% @sz9)) ∧ ((type_of% @by9) ∧ (type_of% @un9))) ∧ (((type_of% @ni9) ∧ (type_of% @zo9)) ∧ ((type_of% @kt9) ∧ ((type_of% @bo9) ∧ (type_of% @st9))))))) ∧ ((((((type_of% @ze9) ∧ (type_of% @ag10)) ∧ ((type_of% @sz10) ∧ (type_of% @by10))) ∧ (((type_of% @un10) ∧ (type_of% @ni10)) ∧ ((type_of% @zo10) ∧ ((type_of% @kt10) ∧ (type_of% @bo10))))) ∧ ((((type_of% @st10) ∧ (type_of% @ze10)) ∧ ((type_of% @ag11) ∧ (type_of% @sz11))) ∧ (((type_of% @by11) ∧ (type_of% @un11)) ∧ ((type_of% @ni11) ∧ ((type_of% @zo11) ∧ (type_of% @kt11)))))) ∧ (((((type_of% @bo11) ∧ (type_of% @st11)) ∧ ((type_of% @ze11) ∧ (type_of% @ag12))) ∧ (((type_of% @sz12) ∧ (type_of% @by12)) ∧ ((type_of% @un12) ∧ ((type_of% @ni12) ∧ (type_of% @zo12))))) ∧ ((((type_of% @kt12) ∧ (type_of% @in12)) ∧ ((type_of% @bo12) ∧ ((type_of% @st12) ∧ (type_of% @ze12)))) ∧ (((type_of% @ag13) ∧ (type_of% @sz13)) ∧ ((type_of% @by13) ∧ ((type_of% @un13) ∧ (type_of% @ni13))))))))) ∧ ((((((((type_of% @kt13) ∧ (type_of% @bo13)) ∧ ((type_of% @st13) ∧ (type_of% @ze13))) ∧ (((type_of% @fi13) ∧ (type_of% @fa13_0)) ∧ ((type_of% @ft13_0) ∧ ((type_of% @fa13_1) ∧ (type_of% @ft13_1))))) ∧ ((((type_of% @ag14) ∧ (type_of% @sz14)) ∧ ((type_of% @by14) ∧ (type_of% @un14))) ∧ (((type_of% @ni14) ∧ (type_of% @kt14)) ∧ ((type_of% @bo14) ∧ ((type_of% @st14) ∧ (type_of% @ze14)))))) ∧ (((((type_of% @fi14) ∧ (type_of% @fa14_0)) ∧ ((type_of% @ft14_0) ∧ (type_of% @fa14_1))) ∧ (((type_of% @ft14_1) ∧ (type_of% @nk15)) ∧ ((type_of% @ag15) ∧ ((type_of% @sz15) ∧ (type_of% @by15))))) ∧ ((((type_of% @un15) ∧ (type_of% @ni15)) ∧ ((type_of% @zo15) ∧ (type_of% @kt15))) ∧ (((type_of% @bo15) ∧ (type_of% @st15)) ∧ ((type_of% @ze15) ∧ ((type_of% @nk16) ∧ (type_of% @ag16))))))) ∧ ((((((type_of% @sz16) ∧ (type_of% @by16)) ∧ ((type_of% @un16) ∧ (type_of% @ni16))) ∧ (((type_of% @zo16) ∧ (type_of% @kt16)) ∧ ((type_of% @bo16) ∧ ((type_of% @st16) ∧ (type_of% @ze16))))) ∧ ((((type_of% @nk17) ∧ (type_of% @ag17)) ∧ ((type_of% @sz17) ∧ (type_of% @by17))) ∧ (((type_of% @un17) ∧ (type_of% @ni17)) ∧ ((type_of% @zo17) ∧ ((type_of% @kt17) ∧ (type_of% @bo17)))))) ∧ (((((type_of% @st17) ∧ (type_of% @ze17)) ∧ ((type_of% @ag18) ∧ (type_of% @sz18))) ∧ (((type_of% @by18) ∧ (type_of% @un18)) ∧ ((type_of% @ni18) ∧ ((type_of% @kt18) ∧ (type_of% @bo18))))) ∧ ((((type_of% @st18) ∧ (type_of% @ze18)) ∧ ((type_of% @fi18) ∧ ((type_of% @fa18_0) ∧ (type_of% @ft18_0)))) ∧ (((type_of% @ag19) ∧ (type_of% @sz19)) ∧ ((type_of% @by19) ∧ ((type_of% @un19) ∧ (type_of% @ni19)))))))) ∧ (((((((type_of% @kt19) ∧ (type_of% @bo19)) ∧ ((type_of% @st19) ∧ (type_of% @ze19))) ∧ (((type_of% @fi19) ∧ (type_of% @fa19_0)) ∧ ((type_of% @ft19_0) ∧ ((type_of% @nk20) ∧ (type_of% @ag20))))) ∧ ((((type_of% @sz20) ∧ (type_of% @by20)) ∧ ((type_of% @un20) ∧ (type_of% @ni20))) ∧ (((type_of% @kt20) ∧ (type_of% @bo20)) ∧ ((type_of% @st20) ∧ ((type_of% @ze20) ∧ (type_of% @ag21)))))) ∧ (((((type_of% @sz21) ∧ (type_of% @by21)) ∧ ((type_of% @un21) ∧ (type_of% @ni21))) ∧ (((type_of% @zo21) ∧ (type_of% @kt21)) ∧ ((type_of% @in21) ∧ ((type_of% @bo21) ∧ (type_of% @st21))))) ∧ ((((type_of% @ze21) ∧ (type_of% @nk22)) ∧ ((type_of% @ag22) ∧ ((type_of% @sz22) ∧ (type_of% @by22)))) ∧ (((type_of% @un22) ∧ (type_of% @ni22)) ∧ ((type_of% @zo22) ∧ ((type_of% @ke22) ∧ (type_of% @kt22))))))) ∧ ((((((type_of% @el22) ∧ (type_of% @bo22)) ∧ ((type_of% @st22) ∧ (type_of% @ze22))) ∧ (((type_of% @ag23) ∧ (type_of% @sz23)) ∧ ((type_of% @by23) ∧ ((type_of% @un23) ∧ (type_of% @ni23))))) ∧ ((((type_of% @zo23) ∧ (type_of% @kt23)) ∧ ((type_of% @in23) ∧ (type_of% @bo23))) ∧ (((type_of% @st23) ∧ (type_of% @ze23)) ∧ ((type_of% @nk25) ∧ ((type_of% @ag25) ∧ (type_of% @sz25)))))) ∧ (((((type_of% @by25) ∧ (type_of% @un25)) ∧ ((type_of% @ni25) ∧ (type_of% @kt25))) ∧ (((type_of% @bo25) ∧ (type_of% @st25)) ∧ ((type_of% @ze25) ∧ ((type_of% @nk26) ∧ (type_of% @ag26))))) ∧ ((((type_of% @sz26) ∧ (type_of% @by26)) ∧ ((type_of% @un26) ∧ ((type_of% @ni26) ∧ (type_of% @kt26)))) ∧ (((type_of% @bo26) ∧ (type_of% @st26)) ∧ ((type_of% @ze26) ∧ ((type_of% @nk27) ∧ (type_of% @ag27)))))))))) ∧ (((((((((type_of% @sz27) ∧ (type_of% @by27)) ∧ ((type_of% @un27) ∧ (type_of% @ni27))) ∧ (((type_of% @kt27) ∧ (type_of% @bo27)) ∧ ((type_of% @st27) ∧ ((type_of% @ze27) ∧ (type_of% @nk29))))) ∧ ((((type_of% @ag29) ∧ (type_of% @sz29)) ∧ ((type_of% @by29) ∧ (type_of% @un29))) ∧ (((type_of% @ni29) ∧ (type_of% @kt29)) ∧ ((type_of% @bo29) ∧ ((type_of% @st29) ∧ (type_of% @ze29)))))) ∧ (((((type_of% @nk30) ∧ (type_of% @ag30)) ∧ ((type_of% @sz30) ∧ (type_of% @by30))) ∧ (((type_of% @un30) ∧ (type_of% @ni30)) ∧ ((type_of% @kt30) ∧ ((type_of% @bo30) ∧ (type_of% @st30))))) ∧ ((((type_of% @ze30) ∧ (type_of% @nk31)) ∧ ((type_of% @ag31) ∧ (type_of% @sz31))) ∧ (((type_of% @by31) ∧ (type_of% @un31)) ∧ ((type_of% @ni31) ∧ ((type_of% @zo31) ∧ (type_of% @ke31))))))) ∧ ((((((type_of% @kt31) ∧ (type_of% @el31)) ∧ ((type_of% @bo31) ∧ (type_of% @st31))) ∧ (((type_of% @ze31) ∧ (type_of% @nk32)) ∧ ((type_of% @ag32) ∧ ((type_of% @sz32) ∧ (type_of% @by32))))) ∧ ((((type_of% @un32) ∧ (type_of% @ni32)) ∧ ((type_of% @zo32) ∧ (type_of% @ke32))) ∧ (((type_of% @kt32) ∧ (type_of% @el32)) ∧ ((type_of% @bo32) ∧ ((type_of% @st32) ∧ (type_of% @ze32)))))) ∧ (((((type_of% @ag33) ∧ (type_of% @sz33)) ∧ ((type_of% @by33) ∧ (type_of% @un33))) ∧ (((type_of% @ni33) ∧ (type_of% @kt33)) ∧ ((type_of% @bo33) ∧ ((type_of% @st33) ∧ (type_of% @ze33))))) ∧ ((((type_of% @fi33) ∧ (type_of% @fa33_0)) ∧ ((type_of% @ft33_0) ∧ ((type_of% @fa33_1) ∧ (type_of% @ft33_1)))) ∧ (((type_of% @fa33_2) ∧ (type_of% @ft33_2)) ∧ ((type_of% @fa33_3) ∧ ((type_of% @ft33_3) ∧ (type_of% @ag34)))))))) ∧ (((((((type_of% @sz34) ∧ (type_of% @by34)) ∧ ((type_of% @un34) ∧ (type_of% @ni34))) ∧ (((type_of% @kt34) ∧ (type_of% @bo34)) ∧ ((type_of% @st34) ∧ ((type_of% @ze34) ∧ (type_of% @fi34))))) ∧ ((((type_of% @fa34_0) ∧ (type_of% @ft34_0)) ∧ ((type_of% @fa34_1) ∧ (type_of% @ft34_1))) ∧ (((type_of% @fa34_2) ∧ (type_of% @ft34_2)) ∧ ((type_of% @fa34_3) ∧ ((type_of% @ft34_3) ∧ (type_of% @nk36)))))) ∧ (((((type_of% @ag36) ∧ (type_of% @sz36)) ∧ ((type_of% @by36) ∧ (type_of% @un36))) ∧ (((type_of% @ni36) ∧ (type_of% @kt36)) ∧ ((type_of% @bo36) ∧ ((type_of% @st36) ∧ (type_of% @ze36))))) ∧ ((((type_of% @ag37) ∧ (type_of% @sz37)) ∧ ((type_of% @by37) ∧ ((type_of% @un37) ∧ (type_of% @ni37)))) ∧ (((type_of% @kt37) ∧ (type_of% @bo37)) ∧ ((type_of% @st37) ∧ ((type_of% @ze37) ∧ (type_of% @fi37))))))) ∧ ((((((type_of% @fa37_0) ∧ (type_of% @ft37_0)) ∧ ((type_of% @fa37_1) ∧ (type_of% @ft37_1))) ∧ (((type_of% @ag38) ∧ (type_of% @sz38)) ∧ ((type_of% @by38) ∧ ((type_of% @un38) ∧ (type_of% @ni38))))) ∧ ((((type_of% @kt38) ∧ (type_of% @bo38)) ∧ ((type_of% @st38) ∧ (type_of% @ze38))) ∧ (((type_of% @eq38) ∧ (type_of% @fi38)) ∧ ((type_of% @fa38_0) ∧ ((type_of% @ft38_0) ∧ (type_of% @fa38_1)))))) ∧ (((((type_of% @ft38_1) ∧ (type_of% @nk39)) ∧ ((type_of% @ag39) ∧ (type_of% @sz39))) ∧ (((type_of% @by39) ∧ (type_of% @un39)) ∧ ((type_of% @ni39) ∧ ((type_of% @kt39) ∧ (type_of% @bo39))))) ∧ ((((type_of% @st39) ∧ (type_of% @ze39)) ∧ ((type_of% @nk40) ∧ ((type_of% @ag40) ∧ (type_of% @sz40)))) ∧ (((type_of% @by40) ∧ (type_of% @un40)) ∧ ((type_of% @ni40) ∧ ((type_of% @kt40) ∧ (type_of% @bo40))))))))) ∧ ((((((((type_of% @st40) ∧ (type_of% @ze40)) ∧ ((type_of% @nk41) ∧ (type_of% @ag41))) ∧ (((type_of% @sz41) ∧ (type_of% @by41)) ∧ ((type_of% @un41) ∧ ((type_of% @ni41) ∧ (type_of% @kt41))))) ∧ ((((type_of% @bo41) ∧ (type_of% @st41)) ∧ ((type_of% @ze41) ∧ (type_of% @nk42))) ∧ (((type_of% @ag42) ∧ (type_of% @sz42)) ∧ ((type_of% @by42) ∧ ((type_of% @un42) ∧ (type_of% @ni42)))))) ∧ (((((type_of% @kt42) ∧ (type_of% @bo42)) ∧ ((type_of% @st42) ∧ (type_of% @ze42))) ∧ (((type_of% @nk43) ∧ (type_of% @ag43)) ∧ ((type_of% @sz43) ∧ ((type_of% @by43) ∧ (type_of% @un43))))) ∧ ((((type_of% @ni43) ∧ (type_of% @kt43)) ∧ ((type_of% @bo43) ∧ (type_of% @st43))) ∧ (((type_of% @ze43) ∧ (type_of% @nk45)) ∧ ((type_of% @ag45) ∧ ((type_of% @sz45) ∧ (type_of% @by45))))))) ∧ ((((((type_of% @un45) ∧ (type_of% @ni45)) ∧ ((type_of% @kt45) ∧ (type_of% @bo45))) ∧ (((type_of% @st45) ∧ (type_of% @ze45)) ∧ ((type_of% @nk46) ∧ ((type_of% @ag46) ∧ (type_of% @sz46))))) ∧ ((((type_of% @by46) ∧ (type_of% @un46)) ∧ ((type_of% @ni46) ∧ (type_of% @kt46))) ∧ (((type_of% @bo46) ∧ (type_of% @st46)) ∧ ((type_of% @ze46) ∧ ((type_of% @nk47) ∧ (type_of% @ag47)))))) ∧ (((((type_of% @sz47) ∧ (type_of% @by47)) ∧ ((type_of% @un47) ∧ (type_of% @ni47))) ∧ (((type_of% @kt47) ∧ (type_of% @bo47)) ∧ ((type_of% @st47) ∧ ((type_of% @ze47) ∧ (type_of% @nk48))))) ∧ ((((type_of% @ag48) ∧ (type_of% @sz48)) ∧ ((type_of% @by48) ∧ ((type_of% @un48) ∧ (type_of% @ni48)))) ∧ (((type_of% @kt48) ∧ (type_of% @bo48)) ∧ ((type_of% @st48) ∧ ((type_of% @ze48) ∧ (type_of% @nk49)))))))) ∧ (((((((type_of% @ag49) ∧ (type_of% @sz49)) ∧ ((type_of% @by49) ∧ (type_of% @un49))) ∧ (((type_of% @ni49) ∧ (type_of% @kt49)) ∧ ((type_of% @bo49) ∧ ((type_of% @st49) ∧ (type_of% @ze49))))) ∧ ((((type_of% @ag50) ∧ (type_of% @sz50)) ∧ ((type_of% @by50) ∧ (type_of% @un50))) ∧ (((type_of% @ni50) ∧ (type_of% @zo50)) ∧ ((type_of% @kt50) ∧ ((type_of% @in50) ∧ (type_of% @bo50)))))) ∧ (((((type_of% @st50) ∧ (type_of% @ze50)) ∧ ((type_of% @ag51) ∧ (type_of% @sz51))) ∧ (((type_of% @by51) ∧ (type_of% @un51)) ∧ ((type_of% @ni51) ∧ ((type_of% @zo51) ∧ (type_of% @kt51))))) ∧ ((((type_of% @in51) ∧ (type_of% @bo51)) ∧ ((type_of% @st51) ∧ ((type_of% @ze51) ∧ (type_of% @nk52)))) ∧ (((type_of% @ag52) ∧ (type_of% @sz52)) ∧ ((type_of% @by52) ∧ ((type_of% @un52) ∧ (type_of% @ni52))))))) ∧ ((((((type_of% @kt52) ∧ (type_of% @bo52)) ∧ ((type_of% @st52) ∧ (type_of% @ze52))) ∧ (((type_of% @nk53) ∧ (type_of% @ag53)) ∧ ((type_of% @sz53) ∧ ((type_of% @by53) ∧ (type_of% @un53))))) ∧ ((((type_of% @ni53) ∧ (type_of% @kt53)) ∧ ((type_of% @bo53) ∧ (type_of% @st53))) ∧ (((type_of% @ze53) ∧ (type_of% @nk55)) ∧ ((type_of% @ag55) ∧ ((type_of% @sz55) ∧ (type_of% @by55)))))) ∧ (((((type_of% @un55) ∧ (type_of% @ni55)) ∧ ((type_of% @kt55) ∧ (type_of% @bo55))) ∧ (((type_of% @st55) ∧ (type_of% @ze55)) ∧ ((type_of% @nk56) ∧ ((type_of% @ag56) ∧ (type_of% @sz56))))) ∧ ((((type_of% @by56) ∧ (type_of% @un56)) ∧ ((type_of% @ni56) ∧ ((type_of% @kt56) ∧ (type_of% @bo56)))) ∧ (((type_of% @st56) ∧ (type_of% @ze56)) ∧ ((type_of% @nk57) ∧ ((type_of% @ag57) ∧ (type_of% @sz57))))))))))) ∧ ((((((((((type_of% @by57) ∧ (type_of% @un57)) ∧ ((type_of% @ni57) ∧ (type_of% @kt57))) ∧ (((type_of% @bo57) ∧ (type_of% @st57)) ∧ ((type_of% @ze57) ∧ ((type_of% @nk58) ∧ (type_of% @ag58))))) ∧ ((((type_of% @sz58) ∧ (type_of% @by58)) ∧ ((type_of% @un58) ∧ (type_of% @ni58))) ∧ (((type_of% @kt58) ∧ (type_of% @bo58)) ∧ ((type_of% @st58) ∧ ((type_of% @ze58) ∧ (type_of% @nk59)))))) ∧ (((((type_of% @ag59) ∧ (type_of% @sz59)) ∧ ((type_of% @by59) ∧ (type_of% @un59))) ∧ (((type_of% @ni59) ∧ (type_of% @kt59)) ∧ ((type_of% @bo59) ∧ ((type_of% @st59) ∧ (type_of% @ze59))))) ∧ ((((type_of% @nk60) ∧ (type_of% @ag60)) ∧ ((type_of% @sz60) ∧ (type_of% @by60))) ∧ (((type_of% @un60) ∧ (type_of% @ni60)) ∧ ((type_of% @kt60) ∧ ((type_of% @bo60) ∧ (type_of% @st60))))))) ∧ ((((((type_of% @ze60) ∧ (type_of% @nk61)) ∧ ((type_of% @ag61) ∧ (type_of% @sz61))) ∧ (((type_of% @by61) ∧ (type_of% @un61)) ∧ ((type_of% @ni61) ∧ ((type_of% @zo61) ∧ (type_of% @ke61))))) ∧ ((((type_of% @kt61) ∧ (type_of% @el61)) ∧ ((type_of% @bo61) ∧ (type_of% @st61))) ∧ (((type_of% @ze61) ∧ (type_of% @nk62)) ∧ ((type_of% @ag62) ∧ ((type_of% @sz62) ∧ (type_of% @by62)))))) ∧ (((((type_of% @un62) ∧ (type_of% @ni62)) ∧ ((type_of% @kt62) ∧ (type_of% @bo62))) ∧ (((type_of% @st62) ∧ (type_of% @ze62)) ∧ ((type_of% @nk63) ∧ ((type_of% @ag63) ∧ (type_of% @sz63))))) ∧ ((((type_of% @by63) ∧ (type_of% @un63)) ∧ ((type_of% @ni63) ∧ ((type_of% @zo63) ∧ (type_of% @ke63)))) ∧ (((type_of% @kt63) ∧ (type_of% @el63)) ∧ ((type_of% @bo63) ∧ ((type_of% @st63) ∧ (type_of% @ze63)))))))) ∧ (((((((type_of% @nk64) ∧ (type_of% @ag64)) ∧ ((type_of% @sz64) ∧ (type_of% @by64))) ∧ (((type_of% @un64) ∧ (type_of% @ni64)) ∧ ((type_of% @kt64) ∧ ((type_of% @bo64) ∧ (type_of% @st64))))) ∧ ((((type_of% @ze64) ∧ (type_of% @nk65)) ∧ ((type_of% @ag65) ∧ (type_of% @sz65))) ∧ (((type_of% @by65) ∧ (type_of% @un65)) ∧ ((type_of% @ni65) ∧ ((type_of% @kt65) ∧ (type_of% @bo65)))))) ∧ (((((type_of% @st65) ∧ (type_of% @ze65)) ∧ ((type_of% @nk66) ∧ (type_of% @ag66))) ∧ (((type_of% @sz66) ∧ (type_of% @by66)) ∧ ((type_of% @un66) ∧ ((type_of% @ni66) ∧ (type_of% @kt66))))) ∧ ((((type_of% @bo66) ∧ (type_of% @st66)) ∧ ((type_of% @ze66) ∧ ((type_of% @ag67) ∧ (type_of% @sz67)))) ∧ (((type_of% @by67) ∧ (type_of% @un67)) ∧ ((type_of% @ni67) ∧ ((type_of% @zo67) ∧ (type_of% @kt67))))))) ∧ ((((((type_of% @in67) ∧ (type_of% @bo67)) ∧ ((type_of% @st67) ∧ (type_of% @ze67))) ∧ (((type_of% @nk68) ∧ (type_of% @ag68)) ∧ ((type_of% @sz68) ∧ ((type_of% @by68) ∧ (type_of% @un68))))) ∧ ((((type_of% @ni68) ∧ (type_of% @kt68)) ∧ ((type_of% @bo68) ∧ (type_of% @st68))) ∧ (((type_of% @ze68) ∧ (type_of% @nk69)) ∧ ((type_of% @ag69) ∧ ((type_of% @sz69) ∧ (type_of% @by69)))))) ∧ (((((type_of% @un69) ∧ (type_of% @ni69)) ∧ ((type_of% @kt69) ∧ (type_of% @bo69))) ∧ (((type_of% @st69) ∧ (type_of% @ze69)) ∧ ((type_of% @nk70) ∧ ((type_of% @ag70) ∧ (type_of% @sz70))))) ∧ ((((type_of% @by70) ∧ (type_of% @un70)) ∧ ((type_of% @ni70) ∧ ((type_of% @kt70) ∧ (type_of% @bo70)))) ∧ (((type_of% @st70) ∧ (type_of% @ze70)) ∧ ((type_of% @nk71) ∧ ((type_of% @ag71) ∧ (type_of% @sz71))))))))) ∧ ((((((((type_of% @by71) ∧ (type_of% @un71)) ∧ ((type_of% @ni71) ∧ (type_of% @kt71))) ∧ (((type_of% @bo71) ∧ (type_of% @st71)) ∧ ((type_of% @ze71) ∧ ((type_of% @nk72) ∧ (type_of% @ag72))))) ∧ ((((type_of% @sz72) ∧ (type_of% @by72)) ∧ ((type_of% @un72) ∧ (type_of% @ni72))) ∧ (((type_of% @kt72) ∧ (type_of% @bo72)) ∧ ((type_of% @st72) ∧ ((type_of% @ze72) ∧ (type_of% @nk73)))))) ∧ (((((type_of% @ag73) ∧ (type_of% @sz73)) ∧ ((type_of% @by73) ∧ (type_of% @un73))) ∧ (((type_of% @ni73) ∧ (type_of% @kt73)) ∧ ((type_of% @bo73) ∧ ((type_of% @st73) ∧ (type_of% @ze73))))) ∧ ((((type_of% @nk77) ∧ (type_of% @ag77)) ∧ ((type_of% @sz77) ∧ (type_of% @by77))) ∧ (((type_of% @un77) ∧ (type_of% @ni77)) ∧ ((type_of% @kt77) ∧ ((type_of% @bo77) ∧ (type_of% @st77))))))) ∧ ((((((type_of% @ze77) ∧ (type_of% @nk78)) ∧ ((type_of% @ag78) ∧ (type_of% @sz78))) ∧ (((type_of% @by78) ∧ (type_of% @un78)) ∧ ((type_of% @ni78) ∧ ((type_of% @kt78) ∧ (type_of% @bo78))))) ∧ ((((type_of% @st78) ∧ (type_of% @ze78)) ∧ ((type_of% @nk79) ∧ (type_of% @ag79))) ∧ (((type_of% @sz79) ∧ (type_of% @by79)) ∧ ((type_of% @un79) ∧ ((type_of% @ni79) ∧ (type_of% @zo79)))))) ∧ (((((type_of% @kt79) ∧ (type_of% @bo79)) ∧ ((type_of% @st79) ∧ (type_of% @ze79))) ∧ (((type_of% @nk82) ∧ (type_of% @ag82)) ∧ ((type_of% @sz82) ∧ ((type_of% @by82) ∧ (type_of% @un82))))) ∧ ((((type_of% @ni82) ∧ (type_of% @kt82)) ∧ ((type_of% @bo82) ∧ ((type_of% @st82) ∧ (type_of% @ze82)))) ∧ (((type_of% @nk84) ∧ (type_of% @ag84)) ∧ ((type_of% @sz84) ∧ ((type_of% @by84) ∧ (type_of% @un84)))))))) ∧ (((((((type_of% @ni84) ∧ (type_of% @kt84)) ∧ ((type_of% @bo84) ∧ (type_of% @st84))) ∧ (((type_of% @ze84) ∧ (type_of% @nk85)) ∧ ((type_of% @ag85) ∧ ((type_of% @sz85) ∧ (type_of% @by85))))) ∧ ((((type_of% @un85) ∧ (type_of% @ni85)) ∧ ((type_of% @kt85) ∧ (type_of% @bo85))) ∧ (((type_of% @st85) ∧ (type_of% @ze85)) ∧ ((type_of% @nk86) ∧ ((type_of% @ag86) ∧ (type_of% @sz86)))))) ∧ (((((type_of% @by86) ∧ (type_of% @un86)) ∧ ((type_of% @ni86) ∧ (type_of% @kt86))) ∧ (((type_of% @bo86) ∧ (type_of% @st86)) ∧ ((type_of% @ze86) ∧ ((type_of% @nk87) ∧ (type_of% @ag87))))) ∧ ((((type_of% @sz87) ∧ (type_of% @by87)) ∧ ((type_of% @un87) ∧ ((type_of% @ni87) ∧ (type_of% @kt87)))) ∧ (((type_of% @bo87) ∧ (type_of% @st87)) ∧ ((type_of% @ze87) ∧ ((type_of% @ag89) ∧ (type_of% @sz89))))))) ∧ ((((((type_of% @by89) ∧ (type_of% @un89)) ∧ ((type_of% @ni89) ∧ (type_of% @kt89))) ∧ (((type_of% @bo89) ∧ (type_of% @st89)) ∧ ((type_of% @ze89) ∧ ((type_of% @fi89) ∧ (type_of% @fa89_0))))) ∧ ((((type_of% @ft89_0) ∧ (type_of% @fa89_1)) ∧ ((type_of% @ft89_1) ∧ (type_of% @ag90))) ∧ (((type_of% @sz90) ∧ (type_of% @by90)) ∧ ((type_of% @un90) ∧ ((type_of% @ni90) ∧ (type_of% @kt90)))))) ∧ (((((type_of% @bo90) ∧ (type_of% @st90)) ∧ ((type_of% @ze90) ∧ (type_of% @fi90))) ∧ (((type_of% @fa90_0) ∧ (type_of% @ft90_0)) ∧ ((type_of% @fa90_1) ∧ ((type_of% @ft90_1) ∧ (type_of% @nk92))))) ∧ ((((type_of% @ag92) ∧ (type_of% @sz92)) ∧ ((type_of% @by92) ∧ ((type_of% @un92) ∧ (type_of% @ni92)))) ∧ (((type_of% @kt92) ∧ (type_of% @bo92)) ∧ ((type_of% @st92) ∧ ((type_of% @ze92) ∧ (type_of% @nk93)))))))))) ∧ (((((((((type_of% @ag93) ∧ (type_of% @sz93)) ∧ ((type_of% @by93) ∧ (type_of% @un93))) ∧ (((type_of% @ni93) ∧ (type_of% @kt93)) ∧ ((type_of% @bo93) ∧ ((type_of% @st93) ∧ (type_of% @ze93))))) ∧ ((((type_of% @nk94) ∧ (type_of% @ag94)) ∧ ((type_of% @sz94) ∧ (type_of% @by94))) ∧ (((type_of% @un94) ∧ (type_of% @ni94)) ∧ ((type_of% @kt94) ∧ ((type_of% @bo94) ∧ (type_of% @st94)))))) ∧ (((((type_of% @ze94) ∧ (type_of% @nk95)) ∧ ((type_of% @ag95) ∧ (type_of% @sz95))) ∧ (((type_of% @by95) ∧ (type_of% @un95)) ∧ ((type_of% @ni95) ∧ ((type_of% @kt95) ∧ (type_of% @bo95))))) ∧ ((((type_of% @st95) ∧ (type_of% @ze95)) ∧ ((type_of% @ag96) ∧ (type_of% @sz96))) ∧ (((type_of% @by96) ∧ (type_of% @un96)) ∧ ((type_of% @ni96) ∧ ((type_of% @kt96) ∧ (type_of% @bo96))))))) ∧ ((((((type_of% @st96) ∧ (type_of% @ze96)) ∧ ((type_of% @fi96) ∧ (type_of% @fa96_0))) ∧ (((type_of% @ft96_0) ∧ (type_of% @fa96_1)) ∧ ((type_of% @ft96_1) ∧ ((type_of% @fa96_2) ∧ (type_of% @ft96_2))))) ∧ ((((type_of% @fa96_3) ∧ (type_of% @ft96_3)) ∧ ((type_of% @ag97) ∧ (type_of% @sz97))) ∧ (((type_of% @by97) ∧ (type_of% @un97)) ∧ ((type_of% @ni97) ∧ ((type_of% @kt97) ∧ (type_of% @bo97)))))) ∧ (((((type_of% @st97) ∧ (type_of% @ze97)) ∧ ((type_of% @fi97) ∧ (type_of% @fa97_0))) ∧ (((type_of% @ft97_0) ∧ (type_of% @fa97_1)) ∧ ((type_of% @ft97_1) ∧ ((type_of% @fa97_2) ∧ (type_of% @ft97_2))))) ∧ ((((type_of% @fa97_3) ∧ (type_of% @ft97_3)) ∧ ((type_of% @ag99) ∧ ((type_of% @sz99) ∧ (type_of% @by99)))) ∧ (((type_of% @un99) ∧ (type_of% @ni99)) ∧ ((type_of% @kt99) ∧ ((type_of% @bo99) ∧ (type_of% @st99)))))))) ∧ (((((((type_of% @ze99) ∧ (type_of% @fi99)) ∧ ((type_of% @ft99_0) ∧ (type_of% @ag100))) ∧ (((type_of% @sz100) ∧ (type_of% @by100)) ∧ ((type_of% @un100) ∧ ((type_of% @ni100) ∧ (type_of% @kt100))))) ∧ ((((type_of% @bo100) ∧ (type_of% @st100)) ∧ ((type_of% @ze100) ∧ (type_of% @fi100))) ∧ (((type_of% @ft100_0) ∧ (type_of% @nk101)) ∧ ((type_of% @ag101) ∧ ((type_of% @sz101) ∧ (type_of% @by101)))))) ∧ (((((type_of% @un101) ∧ (type_of% @ni101)) ∧ ((type_of% @kt101) ∧ (type_of% @bo101))) ∧ (((type_of% @st101) ∧ (type_of% @ze101)) ∧ ((type_of% @ag102) ∧ ((type_of% @sz102) ∧ (type_of% @by102))))) ∧ ((((type_of% @un102) ∧ (type_of% @ni102)) ∧ ((type_of% @zo102) ∧ ((type_of% @kt102) ∧ (type_of% @in102)))) ∧ (((type_of% @bo102) ∧ (type_of% @st102)) ∧ ((type_of% @ze102) ∧ ((type_of% @ag103) ∧ (type_of% @sz103))))))) ∧ ((((((type_of% @by103) ∧ (type_of% @un103)) ∧ ((type_of% @ni103) ∧ (type_of% @zo103))) ∧ (((type_of% @kt103) ∧ (type_of% @in103)) ∧ ((type_of% @bo103) ∧ ((type_of% @st103) ∧ (type_of% @ze103))))) ∧ ((((type_of% @nk104) ∧ (type_of% @ag104)) ∧ ((type_of% @sz104) ∧ (type_of% @by104))) ∧ (((type_of% @un104) ∧ (type_of% @ni104)) ∧ ((type_of% @kt104) ∧ ((type_of% @bo104) ∧ (type_of% @st104)))))) ∧ (((((type_of% @ze104) ∧ (type_of% @nk105)) ∧ ((type_of% @ag105) ∧ (type_of% @sz105))) ∧ (((type_of% @by105) ∧ (type_of% @un105)) ∧ ((type_of% @ni105) ∧ ((type_of% @zo105) ∧ (type_of% @kt105))))) ∧ ((((type_of% @bo105) ∧ (type_of% @st105)) ∧ ((type_of% @ze105) ∧ ((type_of% @ag106) ∧ (type_of% @sz106)))) ∧ (((type_of% @by106) ∧ (type_of% @un106)) ∧ ((type_of% @ni106) ∧ ((type_of% @zo106) ∧ (type_of% @kt106))))))))) ∧ ((((((((type_of% @in106) ∧ (type_of% @bo106)) ∧ ((type_of% @st106) ∧ (type_of% @ze106))) ∧ (((type_of% @ag107) ∧ (type_of% @sz107)) ∧ ((type_of% @by107) ∧ ((type_of% @un107) ∧ (type_of% @ni107))))) ∧ ((((type_of% @zo107) ∧ (type_of% @kt107)) ∧ ((type_of% @in107) ∧ (type_of% @bo107))) ∧ (((type_of% @st107) ∧ (type_of% @ze107)) ∧ ((type_of% @ag108) ∧ ((type_of% @sz108) ∧ (type_of% @by108)))))) ∧ (((((type_of% @un108) ∧ (type_of% @ni108)) ∧ ((type_of% @kt108) ∧ (type_of% @bo108))) ∧ (((type_of% @st108) ∧ (type_of% @ze108)) ∧ ((type_of% @fi108) ∧ ((type_of% @fa108_0) ∧ (type_of% @ft108_0))))) ∧ ((((type_of% @fa108_1) ∧ (type_of% @ft108_1)) ∧ ((type_of% @fa108_2) ∧ (type_of% @ft108_2))) ∧ (((type_of% @fa108_3) ∧ (type_of% @ft108_3)) ∧ ((type_of% @fa108_4) ∧ ((type_of% @ft108_4) ∧ (type_of% @fa108_5))))))) ∧ ((((((type_of% @ft108_5) ∧ (type_of% @fa108_6)) ∧ ((type_of% @ft108_6) ∧ (type_of% @fa108_7))) ∧ (((type_of% @ft108_7) ∧ (type_of% @fa108_8)) ∧ ((type_of% @ft108_8) ∧ ((type_of% @fa108_9) ∧ (type_of% @ft108_9))))) ∧ ((((type_of% @fa108_10) ∧ (type_of% @ft108_10)) ∧ ((type_of% @ag109) ∧ (type_of% @sz109))) ∧ (((type_of% @by109) ∧ (type_of% @un109)) ∧ ((type_of% @ni109) ∧ ((type_of% @kt109) ∧ (type_of% @bo109)))))) ∧ (((((type_of% @st109) ∧ (type_of% @ze109)) ∧ ((type_of% @fi109) ∧ (type_of% @fa109_0))) ∧ (((type_of% @ft109_0) ∧ (type_of% @fa109_1)) ∧ ((type_of% @ft109_1) ∧ ((type_of% @fa109_2) ∧ (type_of% @ft109_2))))) ∧ ((((type_of% @fa109_3) ∧ (type_of% @ft109_3)) ∧ ((type_of% @fa109_4) ∧ ((type_of% @ft109_4) ∧ (type_of% @fa109_5)))) ∧ (((type_of% @ft109_5) ∧ (type_of% @fa109_6)) ∧ ((type_of% @ft109_6) ∧ ((type_of% @fa109_7) ∧ (type_of% @ft109_7)))))))) ∧ (((((((type_of% @fa109_8) ∧ (type_of% @ft109_8)) ∧ ((type_of% @fa109_9) ∧ (type_of% @ft109_9))) ∧ (((type_of% @fa109_10) ∧ (type_of% @ft109_10)) ∧ ((type_of% @ag110) ∧ ((type_of% @sz110) ∧ (type_of% @by110))))) ∧ ((((type_of% @un110) ∧ (type_of% @ni110)) ∧ ((type_of% @kt110) ∧ (type_of% @bo110))) ∧ (((type_of% @st110) ∧ (type_of% @ze110)) ∧ ((type_of% @fo) ∧ ((type_of% @ca3) ∧ (type_of% @ca4)))))) ∧ (((((type_of% @ca5) ∧ (type_of% @ca6)) ∧ ((type_of% @ca7) ∧ (type_of% @ca8))) ∧ (((type_of% @ca9) ∧ (type_of% @ca10)) ∧ ((type_of% @ca11) ∧ ((type_of% @ca12) ∧ (type_of% @ca13))))) ∧ ((((type_of% @ca14) ∧ (type_of% @ca15)) ∧ ((type_of% @ca16) ∧ ((type_of% @ca17) ∧ (type_of% @ca18)))) ∧ (((type_of% @ca19) ∧ (type_of% @ca20)) ∧ ((type_of% @ca21) ∧ ((type_of% @ca22) ∧ (type_of% @ca23))))))) ∧ ((((((type_of% @ca24) ∧ (type_of% @ca25)) ∧ ((type_of% @ca26) ∧ (type_of% @ca27))) ∧ (((type_of% @ca28) ∧ (type_of% @ca29)) ∧ ((type_of% @ca30) ∧ ((type_of% @ca31) ∧ (type_of% @ca32))))) ∧ ((((type_of% @ca33) ∧ (type_of% @ca34)) ∧ ((type_of% @ca35) ∧ (type_of% @ca36))) ∧ (((type_of% @ca37) ∧ (type_of% @ca38)) ∧ ((type_of% @ca39) ∧ ((type_of% @ca41) ∧ (type_of% @ca42)))))) ∧ (((((type_of% @ca43) ∧ (type_of% @ca44)) ∧ ((type_of% @ca45) ∧ (type_of% @ca46))) ∧ (((type_of% @ca47) ∧ (type_of% @ca48)) ∧ ((type_of% @ca50) ∧ ((type_of% @ca51) ∧ (type_of% @ca52))))) ∧ ((((type_of% @ca53) ∧ (type_of% @ca54)) ∧ ((type_of% @ca55) ∧ ((type_of% @ca56) ∧ (type_of% @ca57)))) ∧ (((type_of% @ca58) ∧ (type_of% @ca59)) ∧ ((type_of% @ca60) ∧ ((type_of% @ca61) ∧ (type_of% @ca63))))))))))) := ⟨⟨⟨⟨⟨⟨⟨⟨⟨⟨@nk1, @ag1⟩, ⟨@sz1, @by1⟩⟩, ⟨⟨@un1, @ni1⟩, ⟨@kt1, ⟨@bo1, @st1⟩⟩⟩⟩, ⟨⟨⟨@ze1, @ag2⟩, ⟨@sz2, @by2⟩⟩, ⟨⟨@un2, @ni2⟩, ⟨@zo2, ⟨@kt2, @in2⟩⟩⟩⟩⟩, ⟨⟨⟨⟨@bo2, @st2⟩, ⟨@ze2, @ag3⟩⟩, ⟨⟨@sz3, @by3⟩, ⟨@un3, ⟨@ni3, @zo3⟩⟩⟩⟩, ⟨⟨⟨@kt3, @in3⟩, ⟨@bo3, @st3⟩⟩, ⟨⟨@ze3, @ag4⟩, ⟨@sz4, ⟨@by4, @un4⟩⟩⟩⟩⟩⟩, ⟨⟨⟨⟨⟨@ni4, @zo4⟩, ⟨@kt4, @bo4⟩⟩, ⟨⟨@st4, @ze4⟩, ⟨@ag5, ⟨@sz5, @by5⟩⟩⟩⟩, ⟨⟨⟨@un5, @ni5⟩, ⟨@zo5, @kt5⟩⟩, ⟨⟨@in5, @bo5⟩, ⟨@st5, ⟨@ze5, @ag6⟩⟩⟩⟩⟩, ⟨⟨⟨⟨@sz6, @by6⟩, ⟨@un6, @ni6⟩⟩, ⟨⟨@zo6, @kt6⟩, ⟨@in6, ⟨@bo6, @st6⟩⟩⟩⟩, ⟨⟨⟨@ze6, @ag7⟩, ⟨@sz7, ⟨@by7, @un7⟩⟩⟩, ⟨⟨@ni7, @kt7⟩, ⟨@bo7, ⟨@st7, @ze7⟩⟩⟩⟩⟩⟩⟩, ⟨⟨⟨⟨⟨⟨@fi7, @fa7_0⟩, ⟨@ft7_0, @fa7_1⟩⟩, ⟨⟨@ft7_1, @fa7_2⟩, ⟨@ft7_2, ⟨@fa7_3, @ft7_3⟩⟩⟩⟩, ⟨⟨⟨@ag8, @sz8⟩, ⟨@by8, @un8⟩⟩, ⟨⟨@ni8, @kt8⟩, ⟨@bo8, ⟨@st8, @ze8⟩⟩⟩⟩⟩, ⟨⟨⟨⟨@fi8, @fa8_0⟩, ⟨@ft8_0, @fa8_1⟩⟩, ⟨⟨@ft8_1, @fa8_2⟩, ⟨@ft8_2, ⟨@fa8_3, @ft8_3⟩⟩⟩⟩, ⟨⟨⟨@ag9, @sz9⟩, ⟨@by9, @un9⟩⟩, ⟨⟨@ni9, @zo9⟩, ⟨@kt9, ⟨@bo9, @st9⟩⟩⟩⟩⟩⟩, ⟨⟨⟨⟨⟨@ze9, @ag10⟩, ⟨@sz10, @by10⟩⟩, ⟨⟨@un10, @ni10⟩, ⟨@zo10, ⟨@kt10, @bo10⟩⟩⟩⟩, ⟨⟨⟨@st10, @ze10⟩, ⟨@ag11, @sz11⟩⟩, ⟨⟨@by11, @un11⟩, ⟨@ni11, ⟨@zo11, @kt11⟩⟩⟩⟩⟩, ⟨⟨⟨⟨@bo11, @st11⟩, ⟨@ze11, @ag12⟩⟩, ⟨⟨@sz12, @by12⟩, ⟨@un12, ⟨@ni12, @zo12⟩⟩⟩⟩, ⟨⟨⟨@kt12, @in12⟩, ⟨@bo12, ⟨@st12, @ze12⟩⟩⟩, ⟨⟨@ag13, @sz13⟩, ⟨@by13, ⟨@un13, @ni13⟩⟩⟩⟩⟩⟩⟩⟩, ⟨⟨⟨⟨⟨⟨⟨@kt13, @bo13⟩, ⟨@st13, @ze13⟩⟩, ⟨⟨@fi13, @fa13_0⟩, ⟨@ft13_0, ⟨@fa13_1, @ft13_1⟩⟩⟩⟩, ⟨⟨⟨@ag14, @sz14⟩, ⟨@by14, @un14⟩⟩, ⟨⟨@ni14, @kt14⟩, ⟨@bo14, ⟨@st14, @ze14⟩⟩⟩⟩⟩, ⟨⟨⟨⟨@fi14, @fa14_0⟩, ⟨@ft14_0, @fa14_1⟩⟩, ⟨⟨@ft14_1, @nk15⟩, ⟨@ag15, ⟨@sz15, @by15⟩⟩⟩⟩, ⟨⟨⟨@un15, @ni15⟩, ⟨@zo15, @kt15⟩⟩, ⟨⟨@bo15, @st15⟩, ⟨@ze15, ⟨@nk16, @ag16⟩⟩⟩⟩⟩⟩, ⟨⟨⟨⟨⟨@sz16, @by16⟩, ⟨@un16, @ni16⟩⟩, ⟨⟨@zo16, @kt16⟩, ⟨@bo16, ⟨@st16, @ze16⟩⟩⟩⟩, ⟨⟨⟨@nk17, @ag17⟩, ⟨@sz17, @by17⟩⟩, ⟨⟨@un17, @ni17⟩, ⟨@zo17, ⟨@kt17, @bo17⟩⟩⟩⟩⟩, ⟨⟨⟨⟨@st17, @ze17⟩, ⟨@ag18, @sz18⟩⟩, ⟨⟨@by18, @un18⟩, ⟨@ni18, ⟨@kt18, @bo18⟩⟩⟩⟩, ⟨⟨⟨@st18, @ze18⟩, ⟨@fi18, ⟨@fa18_0, @ft18_0⟩⟩⟩, ⟨⟨@ag19, @sz19⟩, ⟨@by19, ⟨@un19, @ni19⟩⟩⟩⟩⟩⟩⟩, ⟨⟨⟨⟨⟨⟨@kt19, @bo19⟩, ⟨@st19, @ze19⟩⟩, ⟨⟨@fi19, @fa19_0⟩, ⟨@ft19_0, ⟨@nk20, @ag20⟩⟩⟩⟩, ⟨⟨⟨@sz20, @by20⟩, ⟨@un20, @ni20⟩⟩, ⟨⟨@kt20, @bo20⟩, ⟨@st20, ⟨@ze20, @ag21⟩⟩⟩⟩⟩, ⟨⟨⟨⟨@sz21, @by21⟩, ⟨@un21, @ni21⟩⟩, ⟨⟨@zo21, @kt21⟩, ⟨@in21, ⟨@bo21, @st21⟩⟩⟩⟩, ⟨⟨⟨@ze21, @nk22⟩, ⟨@ag22, ⟨@sz22, @by22⟩⟩⟩, ⟨⟨@un22, @ni22⟩, ⟨@zo22, ⟨@ke22, @kt22⟩⟩⟩⟩⟩⟩, ⟨⟨⟨⟨⟨@el22, @bo22⟩, ⟨@st22, @ze22⟩⟩, ⟨⟨@ag23, @sz23⟩, ⟨@by23, ⟨@un23, @ni23⟩⟩⟩⟩, ⟨⟨⟨@zo23, @kt23⟩, ⟨@in23, @bo23⟩⟩, ⟨⟨@st23, @ze23⟩, ⟨@nk25, ⟨@ag25, @sz25⟩⟩⟩⟩⟩, ⟨⟨⟨⟨@by25, @un25⟩, ⟨@ni25, @kt25⟩⟩, ⟨⟨@bo25, @st25⟩, ⟨@ze25, ⟨@nk26, @ag26⟩⟩⟩⟩, ⟨⟨⟨@sz26, @by26⟩, ⟨@un26, ⟨@ni26, @kt26⟩⟩⟩, ⟨⟨@bo26, @st26⟩, ⟨@ze26, ⟨@nk27, @ag27⟩⟩⟩⟩⟩⟩⟩⟩⟩, ⟨⟨⟨⟨⟨⟨⟨⟨@sz27, @by27⟩, ⟨@un27, @ni27⟩⟩, ⟨⟨@kt27, @bo27⟩, ⟨@st27, ⟨@ze27, @nk29⟩⟩⟩⟩, ⟨⟨⟨@ag29, @sz29⟩, ⟨@by29, @un29⟩⟩, ⟨⟨@ni29, @kt29⟩, ⟨@bo29, ⟨@st29, @ze29⟩⟩⟩⟩⟩, ⟨⟨⟨⟨@nk30, @ag30⟩, ⟨@sz30, @by30⟩⟩, ⟨⟨@un30, @ni30⟩, ⟨@kt30, ⟨@bo30, @st30⟩⟩⟩⟩, ⟨⟨⟨@ze30, @nk31⟩, ⟨@ag31, @sz31⟩⟩, ⟨⟨@by31, @un31⟩, ⟨@ni31, ⟨@zo31, @ke31⟩⟩⟩⟩⟩⟩, ⟨⟨⟨⟨⟨@kt31, @el31⟩, ⟨@bo31, @st31⟩⟩, ⟨⟨@ze31, @nk32⟩, ⟨@ag32, ⟨@sz32, @by32⟩⟩⟩⟩, ⟨⟨⟨@un32, @ni32⟩, ⟨@zo32, @ke32⟩⟩, ⟨⟨@kt32, @el32⟩, ⟨@bo32, ⟨@st32, @ze32⟩⟩⟩⟩⟩, ⟨⟨⟨⟨@ag33, @sz33⟩, ⟨@by33, @un33⟩⟩, ⟨⟨@ni33, @kt33⟩, ⟨@bo33, ⟨@st33, @ze33⟩⟩⟩⟩, ⟨⟨⟨@fi33, @fa33_0⟩, ⟨@ft33_0, ⟨@fa33_1, @ft33_1⟩⟩⟩, ⟨⟨@fa33_2, @ft33_2⟩, ⟨@fa33_3, ⟨@ft33_3, @ag34⟩⟩⟩⟩⟩⟩⟩, ⟨⟨⟨⟨⟨⟨@sz34, @by34⟩, ⟨@un34, @ni34⟩⟩, ⟨⟨@kt34, @bo34⟩, ⟨@st34, ⟨@ze34, @fi34⟩⟩⟩⟩, ⟨⟨⟨@fa34_0, @ft34_0⟩, ⟨@fa34_1, @ft34_1⟩⟩, ⟨⟨@fa34_2, @ft34_2⟩, ⟨@fa34_3, ⟨@ft34_3, @nk36⟩⟩⟩⟩⟩, ⟨⟨⟨⟨@ag36, @sz36⟩, ⟨@by36, @un36⟩⟩, ⟨⟨@ni36, @kt36⟩, ⟨@bo36, ⟨@st36, @ze36⟩⟩⟩⟩, ⟨⟨⟨@ag37, @sz37⟩, ⟨@by37, ⟨@un37, @ni37⟩⟩⟩, ⟨⟨@kt37, @bo37⟩, ⟨@st37, ⟨@ze37, @fi37⟩⟩⟩⟩⟩⟩, ⟨⟨⟨⟨⟨@fa37_0, @ft37_0⟩, ⟨@fa37_1, @ft37_1⟩⟩, ⟨⟨@ag38, @sz38⟩, ⟨@by38, ⟨@un38, @ni38⟩⟩⟩⟩, ⟨⟨⟨@kt38, @bo38⟩, ⟨@st38, @ze38⟩⟩, ⟨⟨@eq38, @fi38⟩, ⟨@fa38_0, ⟨@ft38_0, @fa38_1⟩⟩⟩⟩⟩, ⟨⟨⟨⟨@ft38_1, @nk39⟩, ⟨@ag39, @sz39⟩⟩, ⟨⟨@by39, @un39⟩, ⟨@ni39, ⟨@kt39, @bo39⟩⟩⟩⟩, ⟨⟨⟨@st39, @ze39⟩, ⟨@nk40, ⟨@ag40, @sz40⟩⟩⟩, ⟨⟨@by40, @un40⟩, ⟨@ni40, ⟨@kt40, @bo40⟩⟩⟩⟩⟩⟩⟩⟩, ⟨⟨⟨⟨⟨⟨⟨@st40, @ze40⟩, ⟨@nk41, @ag41⟩⟩, ⟨⟨@sz41, @by41⟩, ⟨@un41, ⟨@ni41, @kt41⟩⟩⟩⟩, ⟨⟨⟨@bo41, @st41⟩, ⟨@ze41, @nk42⟩⟩, ⟨⟨@ag42, @sz42⟩, ⟨@by42, ⟨@un42, @ni42⟩⟩⟩⟩⟩, ⟨⟨⟨⟨@kt42, @bo42⟩, ⟨@st42, @ze42⟩⟩, ⟨⟨@nk43, @ag43⟩, ⟨@sz43, ⟨@by43, @un43⟩⟩⟩⟩, ⟨⟨⟨@ni43, @kt43⟩, ⟨@bo43, @st43⟩⟩, ⟨⟨@ze43, @nk45⟩, ⟨@ag45, ⟨@sz45, @by45⟩⟩⟩⟩⟩⟩, ⟨⟨⟨⟨⟨@un45, @ni45⟩, ⟨@kt45, @bo45⟩⟩, ⟨⟨@st45, @ze45⟩, ⟨@nk46, ⟨@ag46, @sz46⟩⟩⟩⟩, ⟨⟨⟨@by46, @un46⟩, ⟨@ni46, @kt46⟩⟩, ⟨⟨@bo46, @st46⟩, ⟨@ze46, ⟨@nk47, @ag47⟩⟩⟩⟩⟩, ⟨⟨⟨⟨@sz47, @by47⟩, ⟨@un47, @ni47⟩⟩, ⟨⟨@kt47, @bo47⟩, ⟨@st47, ⟨@ze47, @nk48⟩⟩⟩⟩, ⟨⟨⟨@ag48, @sz48⟩, ⟨@by48, ⟨@un48, @ni48⟩⟩⟩, ⟨⟨@kt48, @bo48⟩, ⟨@st48, ⟨@ze48, @nk49⟩⟩⟩⟩⟩⟩⟩, ⟨⟨⟨⟨⟨⟨@ag49, @sz49⟩, ⟨@by49, @un49⟩⟩, ⟨⟨@ni49, @kt49⟩, ⟨@bo49, ⟨@st49, @ze49⟩⟩⟩⟩, ⟨⟨⟨@ag50, @sz50⟩, ⟨@by50, @un50⟩⟩, ⟨⟨@ni50, @zo50⟩, ⟨@kt50, ⟨@in50, @bo50⟩⟩⟩⟩⟩, ⟨⟨⟨⟨@st50, @ze50⟩, ⟨@ag51, @sz51⟩⟩, ⟨⟨@by51, @un51⟩, ⟨@ni51, ⟨@zo51, @kt51⟩⟩⟩⟩, ⟨⟨⟨@in51, @bo51⟩, ⟨@st51, ⟨@ze51, @nk52⟩⟩⟩, ⟨⟨@ag52, @sz52⟩, ⟨@by52, ⟨@un52, @ni52⟩⟩⟩⟩⟩⟩, ⟨⟨⟨⟨⟨@kt52, @bo52⟩, ⟨@st52, @ze52⟩⟩, ⟨⟨@nk53, @ag53⟩, ⟨@sz53, ⟨@by53, @un53⟩⟩⟩⟩, ⟨⟨⟨@ni53, @kt53⟩, ⟨@bo53, @st53⟩⟩, ⟨⟨@ze53, @nk55⟩, ⟨@ag55, ⟨@sz55, @by55⟩⟩⟩⟩⟩, ⟨⟨⟨⟨@un55, @ni55⟩, ⟨@kt55, @bo55⟩⟩, ⟨⟨@st55, @ze55⟩, ⟨@nk56, ⟨@ag56, @sz56⟩⟩⟩⟩, ⟨⟨⟨@by56, @un56⟩, ⟨@ni56, ⟨@kt56, @bo56⟩⟩⟩, ⟨⟨@st56, @ze56⟩, ⟨@nk57, ⟨@ag57, @sz57⟩⟩⟩⟩⟩⟩⟩⟩⟩⟩, ⟨⟨⟨⟨⟨⟨⟨⟨⟨@by57, @un57⟩, ⟨@ni57, @kt57⟩⟩, ⟨⟨@bo57, @st57⟩, ⟨@ze57, ⟨@nk58, @ag58⟩⟩⟩⟩, ⟨⟨⟨@sz58, @by58⟩, ⟨@un58, @ni58⟩⟩, ⟨⟨@kt58, @bo58⟩, ⟨@st58, ⟨@ze58, @nk59⟩⟩⟩⟩⟩, ⟨⟨⟨⟨@ag59, @sz59⟩, ⟨@by59, @un59⟩⟩, ⟨⟨@ni59, @kt59⟩, ⟨@bo59, ⟨@st59, @ze59⟩⟩⟩⟩, ⟨⟨⟨@nk60, @ag60⟩, ⟨@sz60, @by60⟩⟩, ⟨⟨@un60, @ni60⟩, ⟨@kt60, ⟨@bo60, @st60⟩⟩⟩⟩⟩⟩, ⟨⟨⟨⟨⟨@ze60, @nk61⟩, ⟨@ag61, @sz61⟩⟩, ⟨⟨@by61, @un61⟩, ⟨@ni61, ⟨@zo61, @ke61⟩⟩⟩⟩, ⟨⟨⟨@kt61, @el61⟩, ⟨@bo61, @st61⟩⟩, ⟨⟨@ze61, @nk62⟩, ⟨@ag62, ⟨@sz62, @by62⟩⟩⟩⟩⟩, ⟨⟨⟨⟨@un62, @ni62⟩, ⟨@kt62, @bo62⟩⟩, ⟨⟨@st62, @ze62⟩, ⟨@nk63, ⟨@ag63, @sz63⟩⟩⟩⟩, ⟨⟨⟨@by63, @un63⟩, ⟨@ni63, ⟨@zo63, @ke63⟩⟩⟩, ⟨⟨@kt63, @el63⟩, ⟨@bo63, ⟨@st63, @ze63⟩⟩⟩⟩⟩⟩⟩, ⟨⟨⟨⟨⟨⟨@nk64, @ag64⟩, ⟨@sz64, @by64⟩⟩, ⟨⟨@un64, @ni64⟩, ⟨@kt64, ⟨@bo64, @st64⟩⟩⟩⟩, ⟨⟨⟨@ze64, @nk65⟩, ⟨@ag65, @sz65⟩⟩, ⟨⟨@by65, @un65⟩, ⟨@ni65, ⟨@kt65, @bo65⟩⟩⟩⟩⟩, ⟨⟨⟨⟨@st65, @ze65⟩, ⟨@nk66, @ag66⟩⟩, ⟨⟨@sz66, @by66⟩, ⟨@un66, ⟨@ni66, @kt66⟩⟩⟩⟩, ⟨⟨⟨@bo66, @st66⟩, ⟨@ze66, ⟨@ag67, @sz67⟩⟩⟩, ⟨⟨@by67, @un67⟩, ⟨@ni67, ⟨@zo67, @kt67⟩⟩⟩⟩⟩⟩, ⟨⟨⟨⟨⟨@in67, @bo67⟩, ⟨@st67, @ze67⟩⟩, ⟨⟨@nk68, @ag68⟩, ⟨@sz68, ⟨@by68, @un68⟩⟩⟩⟩, ⟨⟨⟨@ni68, @kt68⟩, ⟨@bo68, @st68⟩⟩, ⟨⟨@ze68, @nk69⟩, ⟨@ag69, ⟨@sz69, @by69⟩⟩⟩⟩⟩, ⟨⟨⟨⟨@un69, @ni69⟩, ⟨@kt69, @bo69⟩⟩, ⟨⟨@st69, @ze69⟩, ⟨@nk70, ⟨@ag70, @sz70⟩⟩⟩⟩, ⟨⟨⟨@by70, @un70⟩, ⟨@ni70, ⟨@kt70, @bo70⟩⟩⟩, ⟨⟨@st70, @ze70⟩, ⟨@nk71, ⟨@ag71, @sz71⟩⟩⟩⟩⟩⟩⟩⟩, ⟨⟨⟨⟨⟨⟨⟨@by71, @un71⟩, ⟨@ni71, @kt71⟩⟩, ⟨⟨@bo71, @st71⟩, ⟨@ze71, ⟨@nk72, @ag72⟩⟩⟩⟩, ⟨⟨⟨@sz72, @by72⟩, ⟨@un72, @ni72⟩⟩, ⟨⟨@kt72, @bo72⟩, ⟨@st72, ⟨@ze72, @nk73⟩⟩⟩⟩⟩, ⟨⟨⟨⟨@ag73, @sz73⟩, ⟨@by73, @un73⟩⟩, ⟨⟨@ni73, @kt73⟩, ⟨@bo73, ⟨@st73, @ze73⟩⟩⟩⟩, ⟨⟨⟨@nk77, @ag77⟩, ⟨@sz77, @by77⟩⟩, ⟨⟨@un77, @ni77⟩, ⟨@kt77, ⟨@bo77, @st77⟩⟩⟩⟩⟩⟩, ⟨⟨⟨⟨⟨@ze77, @nk78⟩, ⟨@ag78, @sz78⟩⟩, ⟨⟨@by78, @un78⟩, ⟨@ni78, ⟨@kt78, @bo78⟩⟩⟩⟩, ⟨⟨⟨@st78, @ze78⟩, ⟨@nk79, @ag79⟩⟩, ⟨⟨@sz79, @by79⟩, ⟨@un79, ⟨@ni79, @zo79⟩⟩⟩⟩⟩, ⟨⟨⟨⟨@kt79, @bo79⟩, ⟨@st79, @ze79⟩⟩, ⟨⟨@nk82, @ag82⟩, ⟨@sz82, ⟨@by82, @un82⟩⟩⟩⟩, ⟨⟨⟨@ni82, @kt82⟩, ⟨@bo82, ⟨@st82, @ze82⟩⟩⟩, ⟨⟨@nk84, @ag84⟩, ⟨@sz84, ⟨@by84, @un84⟩⟩⟩⟩⟩⟩⟩, ⟨⟨⟨⟨⟨⟨@ni84, @kt84⟩, ⟨@bo84, @st84⟩⟩, ⟨⟨@ze84, @nk85⟩, ⟨@ag85, ⟨@sz85, @by85⟩⟩⟩⟩, ⟨⟨⟨@un85, @ni85⟩, ⟨@kt85, @bo85⟩⟩, ⟨⟨@st85, @ze85⟩, ⟨@nk86, ⟨@ag86, @sz86⟩⟩⟩⟩⟩, ⟨⟨⟨⟨@by86, @un86⟩, ⟨@ni86, @kt86⟩⟩, ⟨⟨@bo86, @st86⟩, ⟨@ze86, ⟨@nk87, @ag87⟩⟩⟩⟩, ⟨⟨⟨@sz87, @by87⟩, ⟨@un87, ⟨@ni87, @kt87⟩⟩⟩, ⟨⟨@bo87, @st87⟩, ⟨@ze87, ⟨@ag89, @sz89⟩⟩⟩⟩⟩⟩, ⟨⟨⟨⟨⟨@by89, @un89⟩, ⟨@ni89, @kt89⟩⟩, ⟨⟨@bo89, @st89⟩, ⟨@ze89, ⟨@fi89, @fa89_0⟩⟩⟩⟩, ⟨⟨⟨@ft89_0, @fa89_1⟩, ⟨@ft89_1, @ag90⟩⟩, ⟨⟨@sz90, @by90⟩, ⟨@un90, ⟨@ni90, @kt90⟩⟩⟩⟩⟩, ⟨⟨⟨⟨@bo90, @st90⟩, ⟨@ze90, @fi90⟩⟩, ⟨⟨@fa90_0, @ft90_0⟩, ⟨@fa90_1, ⟨@ft90_1, @nk92⟩⟩⟩⟩, ⟨⟨⟨@ag92, @sz92⟩, ⟨@by92, ⟨@un92, @ni92⟩⟩⟩, ⟨⟨@kt92, @bo92⟩, ⟨@st92, ⟨@ze92, @nk93⟩⟩⟩⟩⟩⟩⟩⟩⟩, ⟨⟨⟨⟨⟨⟨⟨⟨@ag93, @sz93⟩, ⟨@by93, @un93⟩⟩, ⟨⟨@ni93, @kt93⟩, ⟨@bo93, ⟨@st93, @ze93⟩⟩⟩⟩, ⟨⟨⟨@nk94, @ag94⟩, ⟨@sz94, @by94⟩⟩, ⟨⟨@un94, @ni94⟩, ⟨@kt94, ⟨@bo94, @st94⟩⟩⟩⟩⟩, ⟨⟨⟨⟨@ze94, @nk95⟩, ⟨@ag95, @sz95⟩⟩, ⟨⟨@by95, @un95⟩, ⟨@ni95, ⟨@kt95, @bo95⟩⟩⟩⟩, ⟨⟨⟨@st95, @ze95⟩, ⟨@ag96, @sz96⟩⟩, ⟨⟨@by96, @un96⟩, ⟨@ni96, ⟨@kt96, @bo96⟩⟩⟩⟩⟩⟩, ⟨⟨⟨⟨⟨@st96, @ze96⟩, ⟨@fi96, @fa96_0⟩⟩, ⟨⟨@ft96_0, @fa96_1⟩, ⟨@ft96_1, ⟨@fa96_2, @ft96_2⟩⟩⟩⟩, ⟨⟨⟨@fa96_3, @ft96_3⟩, ⟨@ag97, @sz97⟩⟩, ⟨⟨@by97, @un97⟩, ⟨@ni97, ⟨@kt97, @bo97⟩⟩⟩⟩⟩, ⟨⟨⟨⟨@st97, @ze97⟩, ⟨@fi97, @fa97_0⟩⟩, ⟨⟨@ft97_0, @fa97_1⟩, ⟨@ft97_1, ⟨@fa97_2, @ft97_2⟩⟩⟩⟩, ⟨⟨⟨@fa97_3, @ft97_3⟩, ⟨@ag99, ⟨@sz99, @by99⟩⟩⟩, ⟨⟨@un99, @ni99⟩, ⟨@kt99, ⟨@bo99, @st99⟩⟩⟩⟩⟩⟩⟩, ⟨⟨⟨⟨⟨⟨@ze99, @fi99⟩, ⟨@ft99_0, @ag100⟩⟩, ⟨⟨@sz100, @by100⟩, ⟨@un100, ⟨@ni100, @kt100⟩⟩⟩⟩, ⟨⟨⟨@bo100, @st100⟩, ⟨@ze100, @fi100⟩⟩, ⟨⟨@ft100_0, @nk101⟩, ⟨@ag101, ⟨@sz101, @by101⟩⟩⟩⟩⟩, ⟨⟨⟨⟨@un101, @ni101⟩, ⟨@kt101, @bo101⟩⟩, ⟨⟨@st101, @ze101⟩, ⟨@ag102, ⟨@sz102, @by102⟩⟩⟩⟩, ⟨⟨⟨@un102, @ni102⟩, ⟨@zo102, ⟨@kt102, @in102⟩⟩⟩, ⟨⟨@bo102, @st102⟩, ⟨@ze102, ⟨@ag103, @sz103⟩⟩⟩⟩⟩⟩, ⟨⟨⟨⟨⟨@by103, @un103⟩, ⟨@ni103, @zo103⟩⟩, ⟨⟨@kt103, @in103⟩, ⟨@bo103, ⟨@st103, @ze103⟩⟩⟩⟩, ⟨⟨⟨@nk104, @ag104⟩, ⟨@sz104, @by104⟩⟩, ⟨⟨@un104, @ni104⟩, ⟨@kt104, ⟨@bo104, @st104⟩⟩⟩⟩⟩, ⟨⟨⟨⟨@ze104, @nk105⟩, ⟨@ag105, @sz105⟩⟩, ⟨⟨@by105, @un105⟩, ⟨@ni105, ⟨@zo105, @kt105⟩⟩⟩⟩, ⟨⟨⟨@bo105, @st105⟩, ⟨@ze105, ⟨@ag106, @sz106⟩⟩⟩, ⟨⟨@by106, @un106⟩, ⟨@ni106, ⟨@zo106, @kt106⟩⟩⟩⟩⟩⟩⟩⟩, ⟨⟨⟨⟨⟨⟨⟨@in106, @bo106⟩, ⟨@st106, @ze106⟩⟩, ⟨⟨@ag107, @sz107⟩, ⟨@by107, ⟨@un107, @ni107⟩⟩⟩⟩, ⟨⟨⟨@zo107, @kt107⟩, ⟨@in107, @bo107⟩⟩, ⟨⟨@st107, @ze107⟩, ⟨@ag108, ⟨@sz108, @by108⟩⟩⟩⟩⟩, ⟨⟨⟨⟨@un108, @ni108⟩, ⟨@kt108, @bo108⟩⟩, ⟨⟨@st108, @ze108⟩, ⟨@fi108, ⟨@fa108_0, @ft108_0⟩⟩⟩⟩, ⟨⟨⟨@fa108_1, @ft108_1⟩, ⟨@fa108_2, @ft108_2⟩⟩, ⟨⟨@fa108_3, @ft108_3⟩, ⟨@fa108_4, ⟨@ft108_4, @fa108_5⟩⟩⟩⟩⟩⟩, ⟨⟨⟨⟨⟨@ft108_5, @fa108_6⟩, ⟨@ft108_6, @fa108_7⟩⟩, ⟨⟨@ft108_7, @fa108_8⟩, ⟨@ft108_8, ⟨@fa108_9, @ft108_9⟩⟩⟩⟩, ⟨⟨⟨@fa108_10, @ft108_10⟩, ⟨@ag109, @sz109⟩⟩, ⟨⟨@by109, @un109⟩, ⟨@ni109, ⟨@kt109, @bo109⟩⟩⟩⟩⟩, ⟨⟨⟨⟨@st109, @ze109⟩, ⟨@fi109, @fa109_0⟩⟩, ⟨⟨@ft109_0, @fa109_1⟩, ⟨@ft109_1, ⟨@fa109_2, @ft109_2⟩⟩⟩⟩, ⟨⟨⟨@fa109_3, @ft109_3⟩, ⟨@fa109_4, ⟨@ft109_4, @fa109_5⟩⟩⟩, ⟨⟨@ft109_5, @fa109_6⟩, ⟨@ft109_6, ⟨@fa109_7, @ft109_7⟩⟩⟩⟩⟩⟩⟩, ⟨⟨⟨⟨⟨⟨@fa109_8, @ft109_8⟩, ⟨@fa109_9, @ft109_9⟩⟩, ⟨⟨@fa109_10, @ft109_10⟩, ⟨@ag110, ⟨@sz110, @by110⟩⟩⟩⟩, ⟨⟨⟨@un110, @ni110⟩, ⟨@kt110, @bo110⟩⟩, ⟨⟨@st110, @ze110⟩, ⟨@fo, ⟨@ca3, @ca4⟩⟩⟩⟩⟩, ⟨⟨⟨⟨@ca5, @ca6⟩, ⟨@ca7, @ca8⟩⟩, ⟨⟨@ca9, @ca10⟩, ⟨@ca11, ⟨@ca12, @ca13⟩⟩⟩⟩, ⟨⟨⟨@ca14, @ca15⟩, ⟨@ca16, ⟨@ca17, @ca18⟩⟩⟩, ⟨⟨@ca19, @ca20⟩, ⟨@ca21, ⟨@ca22, @ca23⟩⟩⟩⟩⟩⟩, ⟨⟨⟨⟨⟨@ca24, @ca25⟩, ⟨@ca26, @ca27⟩⟩, ⟨⟨@ca28, @ca29⟩, ⟨@ca30, ⟨@ca31, @ca32⟩⟩⟩⟩, ⟨⟨⟨@ca33, @ca34⟩, ⟨@ca35, @ca36⟩⟩, ⟨⟨@ca37, @ca38⟩, ⟨@ca39, ⟨@ca41, @ca42⟩⟩⟩⟩⟩, ⟨⟨⟨⟨@ca43, @ca44⟩, ⟨@ca45, @ca46⟩⟩, ⟨⟨@ca47, @ca48⟩, ⟨@ca50, ⟨@ca51, @ca52⟩⟩⟩⟩, ⟨⟨⟨@ca53, @ca54⟩, ⟨@ca55, ⟨@ca56, @ca57⟩⟩⟩, ⟨⟨@ca58, @ca59⟩, ⟨@ca60, ⟨@ca61, @ca63⟩⟩⟩⟩⟩⟩⟩⟩⟩⟩⟩
end Go.Proofs.YtnmbglnenmhpiaaDoor.E
