/- Closed facts: what the walk asks of the program's table of types, and of its functions. No conditions. -/
import Derived.Test.YtonolfpnidaflaaDoorEngineC
import Derived.Test.YtonolfpnidaflaaDoorProg
import Derived.KernelRfl
namespace Go.Proofs.YtonolfpnidaflaaDoor.E
open Go
theorem nk1 : tyNil Tryd.prog 1 = some .func := by kernel_rfl
theorem ag1 : tyAgg Tryd.prog 1 = some false := by kernel_rfl
theorem sz1 : tySz Tryd.prog 1 = some 1 := by kernel_rfl
theorem by1 : tyBy Tryd.prog 1 = some 8 := by kernel_rfl
theorem un1 : (Tryd.prog.underlying 1).isSome = true := by kernel_rfl
theorem ni1 : tyNoIf Tryd.prog 1 = true := by kernel_rfl
theorem kt1 : tyKsT Tryd.prog 1 = [none] := by kernel_rfl
theorem bo1 : tyBool Tryd.prog 1 = false := by kernel_rfl
theorem st1 : tyStr Tryd.prog 1 = false := by kernel_rfl
theorem ze1 : tyZ Tryd.prog 1 = some [.val .nilFunc] := by kernel_rfl
theorem ag2 : tyAgg Tryd.prog 2 = some false := by kernel_rfl
theorem sz2 : tySz Tryd.prog 2 = some 1 := by kernel_rfl
theorem by2 : tyBy Tryd.prog 2 = some 8 := by kernel_rfl
theorem un2 : (Tryd.prog.underlying 2).isSome = true := by kernel_rfl
theorem ni2 : tyNoIf Tryd.prog 2 = true := by kernel_rfl
theorem zo2 : tyZ1 Tryd.prog 2 = some ((.int .i64 0)) := by kernel_rfl
theorem kt2 : tyKsT Tryd.prog 2 = [none] := by kernel_rfl
theorem in2 : tyInt Tryd.prog 2 = some .i64 := by kernel_rfl
theorem bo2 : tyBool Tryd.prog 2 = false := by kernel_rfl
theorem st2 : tyStr Tryd.prog 2 = false := by kernel_rfl
theorem ze2 : tyZ Tryd.prog 2 = some [.val (.int .i64 0)] := by kernel_rfl
theorem ag3 : tyAgg Tryd.prog 3 = some false := by kernel_rfl
theorem sz3 : tySz Tryd.prog 3 = some 1 := by kernel_rfl
theorem by3 : tyBy Tryd.prog 3 = some 8 := by kernel_rfl
theorem un3 : (Tryd.prog.underlying 3).isSome = true := by kernel_rfl
theorem ni3 : tyNoIf Tryd.prog 3 = true := by kernel_rfl
theorem zo3 : tyZ1 Tryd.prog 3 = some ((.int .i64 0)) := by kernel_rfl
theorem kt3 : tyKsT Tryd.prog 3 = [none] := by kernel_rfl
theorem in3 : tyInt Tryd.prog 3 = some .i64 := by kernel_rfl
theorem bo3 : tyBool Tryd.prog 3 = false := by kernel_rfl
theorem st3 : tyStr Tryd.prog 3 = false := by kernel_rfl
theorem ze3 : tyZ Tryd.prog 3 = some [.val (.int .i64 0)] := by kernel_rfl
theorem ag4 : tyAgg Tryd.prog 4 = some false := by kernel_rfl
theorem sz4 : tySz Tryd.prog 4 = some 1 := by kernel_rfl
theorem by4 : tyBy Tryd.prog 4 = some 1 := by kernel_rfl
theorem un4 : (Tryd.prog.underlying 4).isSome = true := by kernel_rfl
theorem ni4 : tyNoIf Tryd.prog 4 = true := by kernel_rfl
theorem zo4 : tyZ1 Tryd.prog 4 = some ((.bool false)) := by kernel_rfl
theorem kt4 : tyKsT Tryd.prog 4 = [none] := by kernel_rfl
theorem bo4 : tyBool Tryd.prog 4 = true := by kernel_rfl
theorem st4 : tyStr Tryd.prog 4 = false := by kernel_rfl
theorem ze4 : tyZ Tryd.prog 4 = some [.val (.bool false)] := by kernel_rfl
theorem ag5 : tyAgg Tryd.prog 5 = some false := by kernel_rfl
theorem sz5 : tySz Tryd.prog 5 = some 1 := by kernel_rfl
theorem by5 : tyBy Tryd.prog 5 = some 1 := by kernel_rfl
theorem un5 : (Tryd.prog.underlying 5).isSome = true := by kernel_rfl
theorem ni5 : tyNoIf Tryd.prog 5 = true := by kernel_rfl
theorem zo5 : tyZ1 Tryd.prog 5 = some ((.int .u8 0)) := by kernel_rfl
theorem kt5 : tyKsT Tryd.prog 5 = [none] := by kernel_rfl
theorem in5 : tyInt Tryd.prog 5 = some .u8 := by kernel_rfl
theorem bo5 : tyBool Tryd.prog 5 = false := by kernel_rfl
theorem st5 : tyStr Tryd.prog 5 = false := by kernel_rfl
theorem ze5 : tyZ Tryd.prog 5 = some [.val (.int .u8 0)] := by kernel_rfl
theorem ag6 : tyAgg Tryd.prog 6 = some false := by kernel_rfl
theorem sz6 : tySz Tryd.prog 6 = some 1 := by kernel_rfl
theorem by6 : tyBy Tryd.prog 6 = some 1 := by kernel_rfl
theorem un6 : (Tryd.prog.underlying 6).isSome = true := by kernel_rfl
theorem ni6 : tyNoIf Tryd.prog 6 = true := by kernel_rfl
theorem zo6 : tyZ1 Tryd.prog 6 = some ((.int .u8 0)) := by kernel_rfl
theorem kt6 : tyKsT Tryd.prog 6 = [none] := by kernel_rfl
theorem in6 : tyInt Tryd.prog 6 = some .u8 := by kernel_rfl
theorem bo6 : tyBool Tryd.prog 6 = false := by kernel_rfl
theorem st6 : tyStr Tryd.prog 6 = false := by kernel_rfl
theorem ze6 : tyZ Tryd.prog 6 = some [.val (.int .u8 0)] := by kernel_rfl
theorem ag7 : tyAgg Tryd.prog 7 = some true := by kernel_rfl
theorem sz7 : tySz Tryd.prog 7 = some 4 := by kernel_rfl
theorem by7 : tyBy Tryd.prog 7 = some 24 := by kernel_rfl
theorem un7 : (Tryd.prog.underlying 7).isSome = true := by kernel_rfl
theorem ni7 : tyNoIf Tryd.prog 7 = true := by kernel_rfl
theorem kt7 : tyKsT Tryd.prog 7 = [none, none, none, none] := by kernel_rfl
theorem bo7 : tyBool Tryd.prog 7 = false := by kernel_rfl
theorem st7 : tyStr Tryd.prog 7 = false := by kernel_rfl
theorem ze7 : tyZ Tryd.prog 7 = some [.val (.int .i64 0), .val (.int .i64 0), .val (.bool false), .val (.int .u8 0)] := by kernel_rfl
theorem fi7 : tyF Tryd.prog 7 = some [(0, 1), (1, 1), (2, 1), (3, 1)] := by kernel_rfl
theorem fa7_0 : tyFA Tryd.prog 7 0 = some 0 := by kernel_rfl
theorem ft7_0 : tyFT Tryd.prog 7 0 = some (0, 2) := by kernel_rfl
theorem fa7_1 : tyFA Tryd.prog 7 1 = some 1 := by kernel_rfl
theorem ft7_1 : tyFT Tryd.prog 7 1 = some (1, 3) := by kernel_rfl
theorem fa7_2 : tyFA Tryd.prog 7 2 = some 2 := by kernel_rfl
theorem ft7_2 : tyFT Tryd.prog 7 2 = some (2, 4) := by kernel_rfl
theorem fa7_3 : tyFA Tryd.prog 7 3 = some 3 := by kernel_rfl
theorem ft7_3 : tyFT Tryd.prog 7 3 = some (3, 6) := by kernel_rfl
theorem ag8 : tyAgg Tryd.prog 8 = some true := by kernel_rfl
theorem sz8 : tySz Tryd.prog 8 = some 4 := by kernel_rfl
theorem by8 : tyBy Tryd.prog 8 = some 24 := by kernel_rfl
theorem un8 : (Tryd.prog.underlying 8).isSome = true := by kernel_rfl
theorem ni8 : tyNoIf Tryd.prog 8 = true := by kernel_rfl
theorem kt8 : tyKsT Tryd.prog 8 = [none, none, none, none] := by kernel_rfl
theorem bo8 : tyBool Tryd.prog 8 = false := by kernel_rfl
theorem st8 : tyStr Tryd.prog 8 = false := by kernel_rfl
theorem ze8 : tyZ Tryd.prog 8 = some [.val (.int .i64 0), .val (.int .i64 0), .val (.bool false), .val (.int .u8 0)] := by kernel_rfl
theorem fi8 : tyF Tryd.prog 8 = some [(0, 1), (1, 1), (2, 1), (3, 1)] := by kernel_rfl
theorem fa8_0 : tyFA Tryd.prog 8 0 = some 0 := by kernel_rfl
theorem ft8_0 : tyFT Tryd.prog 8 0 = some (0, 2) := by kernel_rfl
theorem fa8_1 : tyFA Tryd.prog 8 1 = some 1 := by kernel_rfl
theorem ft8_1 : tyFT Tryd.prog 8 1 = some (1, 3) := by kernel_rfl
theorem fa8_2 : tyFA Tryd.prog 8 2 = some 2 := by kernel_rfl
theorem ft8_2 : tyFT Tryd.prog 8 2 = some (2, 4) := by kernel_rfl
theorem fa8_3 : tyFA Tryd.prog 8 3 = some 3 := by kernel_rfl
theorem ft8_3 : tyFT Tryd.prog 8 3 = some (3, 6) := by kernel_rfl
theorem ag9 : tyAgg Tryd.prog 9 = some false := by kernel_rfl
theorem sz9 : tySz Tryd.prog 9 = some 1 := by kernel_rfl
theorem by9 : tyBy Tryd.prog 9 = some 16 := by kernel_rfl
theorem un9 : (Tryd.prog.underlying 9).isSome = true := by kernel_rfl
theorem ni9 : tyNoIf Tryd.prog 9 = true := by kernel_rfl
theorem zo9 : tyZ1 Tryd.prog 9 = some ((.string ⟨#[]⟩)) := by kernel_rfl
theorem kt9 : tyKsT Tryd.prog 9 = [none] := by kernel_rfl
theorem bo9 : tyBool Tryd.prog 9 = false := by kernel_rfl
theorem st9 : tyStr Tryd.prog 9 = true := by kernel_rfl
theorem ze9 : tyZ Tryd.prog 9 = some [.val (.string ⟨#[]⟩)] := by kernel_rfl
theorem ag10 : tyAgg Tryd.prog 10 = some false := by kernel_rfl
theorem sz10 : tySz Tryd.prog 10 = some 1 := by kernel_rfl
theorem by10 : tyBy Tryd.prog 10 = some 16 := by kernel_rfl
theorem un10 : (Tryd.prog.underlying 10).isSome = true := by kernel_rfl
theorem ni10 : tyNoIf Tryd.prog 10 = true := by kernel_rfl
theorem zo10 : tyZ1 Tryd.prog 10 = some ((.string ⟨#[]⟩)) := by kernel_rfl
theorem kt10 : tyKsT Tryd.prog 10 = [none] := by kernel_rfl
theorem bo10 : tyBool Tryd.prog 10 = false := by kernel_rfl
theorem st10 : tyStr Tryd.prog 10 = true := by kernel_rfl
theorem ze10 : tyZ Tryd.prog 10 = some [.val (.string ⟨#[]⟩)] := by kernel_rfl
theorem ag11 : tyAgg Tryd.prog 11 = some false := by kernel_rfl
theorem sz11 : tySz Tryd.prog 11 = some 1 := by kernel_rfl
theorem by11 : tyBy Tryd.prog 11 = some 16 := by kernel_rfl
theorem un11 : (Tryd.prog.underlying 11).isSome = true := by kernel_rfl
theorem ni11 : tyNoIf Tryd.prog 11 = true := by kernel_rfl
theorem zo11 : tyZ1 Tryd.prog 11 = some ((.string ⟨#[]⟩)) := by kernel_rfl
theorem kt11 : tyKsT Tryd.prog 11 = [none] := by kernel_rfl
theorem bo11 : tyBool Tryd.prog 11 = false := by kernel_rfl
theorem st11 : tyStr Tryd.prog 11 = true := by kernel_rfl
theorem ze11 : tyZ Tryd.prog 11 = some [.val (.string ⟨#[]⟩)] := by kernel_rfl
theorem ag12 : tyAgg Tryd.prog 12 = some false := by kernel_rfl
theorem sz12 : tySz Tryd.prog 12 = some 1 := by kernel_rfl
theorem by12 : tyBy Tryd.prog 12 = some 8 := by kernel_rfl
theorem un12 : (Tryd.prog.underlying 12).isSome = true := by kernel_rfl
theorem ni12 : tyNoIf Tryd.prog 12 = true := by kernel_rfl
theorem zo12 : tyZ1 Tryd.prog 12 = some ((.int .u64 0)) := by kernel_rfl
theorem kt12 : tyKsT Tryd.prog 12 = [none] := by kernel_rfl
theorem in12 : tyInt Tryd.prog 12 = some .u64 := by kernel_rfl
theorem bo12 : tyBool Tryd.prog 12 = false := by kernel_rfl
theorem st12 : tyStr Tryd.prog 12 = false := by kernel_rfl
theorem ze12 : tyZ Tryd.prog 12 = some [.val (.int .u64 0)] := by kernel_rfl
theorem ag13 : tyAgg Tryd.prog 13 = some true := by kernel_rfl
theorem sz13 : tySz Tryd.prog 13 = some 2 := by kernel_rfl
theorem by13 : tyBy Tryd.prog 13 = some 24 := by kernel_rfl
theorem un13 : (Tryd.prog.underlying 13).isSome = true := by kernel_rfl
theorem ni13 : tyNoIf Tryd.prog 13 = true := by kernel_rfl
theorem kt13 : tyKsT Tryd.prog 13 = [none, none] := by kernel_rfl
theorem bo13 : tyBool Tryd.prog 13 = false := by kernel_rfl
theorem st13 : tyStr Tryd.prog 13 = false := by kernel_rfl
theorem ze13 : tyZ Tryd.prog 13 = some [.val (.string ⟨#[]⟩), .val (.int .u64 0)] := by kernel_rfl
theorem fi13 : tyF Tryd.prog 13 = some [(0, 1), (1, 1)] := by kernel_rfl
theorem fa13_0 : tyFA Tryd.prog 13 0 = some 0 := by kernel_rfl
theorem ft13_0 : tyFT Tryd.prog 13 0 = some (0, 9) := by kernel_rfl
theorem fa13_1 : tyFA Tryd.prog 13 1 = some 1 := by kernel_rfl
theorem ft13_1 : tyFT Tryd.prog 13 1 = some (1, 12) := by kernel_rfl
theorem ag14 : tyAgg Tryd.prog 14 = some true := by kernel_rfl
theorem sz14 : tySz Tryd.prog 14 = some 2 := by kernel_rfl
theorem by14 : tyBy Tryd.prog 14 = some 24 := by kernel_rfl
theorem un14 : (Tryd.prog.underlying 14).isSome = true := by kernel_rfl
theorem ni14 : tyNoIf Tryd.prog 14 = true := by kernel_rfl
theorem kt14 : tyKsT Tryd.prog 14 = [none, none] := by kernel_rfl
theorem bo14 : tyBool Tryd.prog 14 = false := by kernel_rfl
theorem st14 : tyStr Tryd.prog 14 = false := by kernel_rfl
theorem ze14 : tyZ Tryd.prog 14 = some [.val (.string ⟨#[]⟩), .val (.int .u64 0)] := by kernel_rfl
theorem fi14 : tyF Tryd.prog 14 = some [(0, 1), (1, 1)] := by kernel_rfl
theorem fa14_0 : tyFA Tryd.prog 14 0 = some 0 := by kernel_rfl
theorem ft14_0 : tyFT Tryd.prog 14 0 = some (0, 9) := by kernel_rfl
theorem fa14_1 : tyFA Tryd.prog 14 1 = some 1 := by kernel_rfl
theorem ft14_1 : tyFT Tryd.prog 14 1 = some (1, 12) := by kernel_rfl
theorem nk15 : tyNil Tryd.prog 15 = some .pointer := by kernel_rfl
theorem ag15 : tyAgg Tryd.prog 15 = some false := by kernel_rfl
theorem sz15 : tySz Tryd.prog 15 = some 1 := by kernel_rfl
theorem by15 : tyBy Tryd.prog 15 = some 8 := by kernel_rfl
theorem un15 : (Tryd.prog.underlying 15).isSome = true := by kernel_rfl
theorem ni15 : tyNoIf Tryd.prog 15 = true := by kernel_rfl
theorem zo15 : tyZ1 Tryd.prog 15 = some ((.pointer none)) := by kernel_rfl
theorem kt15 : tyKsT Tryd.prog 15 = [none] := by kernel_rfl
theorem bo15 : tyBool Tryd.prog 15 = false := by kernel_rfl
theorem st15 : tyStr Tryd.prog 15 = false := by kernel_rfl
theorem ze15 : tyZ Tryd.prog 15 = some [.val (.pointer none)] := by kernel_rfl
theorem nk16 : tyNil Tryd.prog 16 = some .pointer := by kernel_rfl
theorem ag16 : tyAgg Tryd.prog 16 = some false := by kernel_rfl
theorem sz16 : tySz Tryd.prog 16 = some 1 := by kernel_rfl
theorem by16 : tyBy Tryd.prog 16 = some 8 := by kernel_rfl
theorem un16 : (Tryd.prog.underlying 16).isSome = true := by kernel_rfl
theorem ni16 : tyNoIf Tryd.prog 16 = true := by kernel_rfl
theorem zo16 : tyZ1 Tryd.prog 16 = some ((.pointer none)) := by kernel_rfl
theorem kt16 : tyKsT Tryd.prog 16 = [none] := by kernel_rfl
theorem bo16 : tyBool Tryd.prog 16 = false := by kernel_rfl
theorem st16 : tyStr Tryd.prog 16 = false := by kernel_rfl
theorem ze16 : tyZ Tryd.prog 16 = some [.val (.pointer none)] := by kernel_rfl
theorem nk17 : tyNil Tryd.prog 17 = some .pointer := by kernel_rfl
theorem ag17 : tyAgg Tryd.prog 17 = some false := by kernel_rfl
theorem sz17 : tySz Tryd.prog 17 = some 1 := by kernel_rfl
theorem by17 : tyBy Tryd.prog 17 = some 8 := by kernel_rfl
theorem un17 : (Tryd.prog.underlying 17).isSome = true := by kernel_rfl
theorem ni17 : tyNoIf Tryd.prog 17 = true := by kernel_rfl
theorem zo17 : tyZ1 Tryd.prog 17 = some ((.pointer none)) := by kernel_rfl
theorem kt17 : tyKsT Tryd.prog 17 = [none] := by kernel_rfl
theorem bo17 : tyBool Tryd.prog 17 = false := by kernel_rfl
theorem st17 : tyStr Tryd.prog 17 = false := by kernel_rfl
theorem ze17 : tyZ Tryd.prog 17 = some [.val (.pointer none)] := by kernel_rfl
theorem ag18 : tyAgg Tryd.prog 18 = some true := by kernel_rfl
theorem sz18 : tySz Tryd.prog 18 = some 1 := by kernel_rfl
theorem by18 : tyBy Tryd.prog 18 = some 8 := by kernel_rfl
theorem un18 : (Tryd.prog.underlying 18).isSome = true := by kernel_rfl
theorem ni18 : tyNoIf Tryd.prog 18 = true := by kernel_rfl
theorem kt18 : tyKsT Tryd.prog 18 = [none] := by kernel_rfl
theorem bo18 : tyBool Tryd.prog 18 = false := by kernel_rfl
theorem st18 : tyStr Tryd.prog 18 = false := by kernel_rfl
theorem ze18 : tyZ Tryd.prog 18 = some [.val (.pointer none)] := by kernel_rfl
theorem fi18 : tyF Tryd.prog 18 = some [(0, 1)] := by kernel_rfl
theorem fa18_0 : tyFA Tryd.prog 18 0 = some 0 := by kernel_rfl
theorem ft18_0 : tyFT Tryd.prog 18 0 = some (0, 17) := by kernel_rfl
theorem ag19 : tyAgg Tryd.prog 19 = some true := by kernel_rfl
theorem sz19 : tySz Tryd.prog 19 = some 1 := by kernel_rfl
theorem by19 : tyBy Tryd.prog 19 = some 8 := by kernel_rfl
theorem un19 : (Tryd.prog.underlying 19).isSome = true := by kernel_rfl
theorem ni19 : tyNoIf Tryd.prog 19 = true := by kernel_rfl
theorem kt19 : tyKsT Tryd.prog 19 = [none] := by kernel_rfl
theorem bo19 : tyBool Tryd.prog 19 = false := by kernel_rfl
theorem st19 : tyStr Tryd.prog 19 = false := by kernel_rfl
theorem ze19 : tyZ Tryd.prog 19 = some [.val (.pointer none)] := by kernel_rfl
theorem fi19 : tyF Tryd.prog 19 = some [(0, 1)] := by kernel_rfl
theorem fa19_0 : tyFA Tryd.prog 19 0 = some 0 := by kernel_rfl
theorem ft19_0 : tyFT Tryd.prog 19 0 = some (0, 17) := by kernel_rfl
theorem nk20 : tyNil Tryd.prog 20 = some .iface := by kernel_rfl
theorem ag20 : tyAgg Tryd.prog 20 = some false := by kernel_rfl
theorem sz20 : tySz Tryd.prog 20 = some 1 := by kernel_rfl
theorem by20 : tyBy Tryd.prog 20 = some 16 := by kernel_rfl
theorem un20 : (Tryd.prog.underlying 20).isSome = true := by kernel_rfl
theorem ni20 : tyNoIf Tryd.prog 20 = false := by kernel_rfl
theorem kt20 : tyKsT Tryd.prog 20 = [none] := by kernel_rfl
theorem bo20 : tyBool Tryd.prog 20 = false := by kernel_rfl
theorem st20 : tyStr Tryd.prog 20 = false := by kernel_rfl
theorem ze20 : tyZ Tryd.prog 20 = some [.val .nilIface] := by kernel_rfl
theorem ag21 : tyAgg Tryd.prog 21 = some false := by kernel_rfl
theorem sz21 : tySz Tryd.prog 21 = some 1 := by kernel_rfl
theorem by21 : tyBy Tryd.prog 21 = some 4 := by kernel_rfl
theorem un21 : (Tryd.prog.underlying 21).isSome = true := by kernel_rfl
theorem ni21 : tyNoIf Tryd.prog 21 = true := by kernel_rfl
theorem zo21 : tyZ1 Tryd.prog 21 = some ((.int .i32 0)) := by kernel_rfl
theorem kt21 : tyKsT Tryd.prog 21 = [none] := by kernel_rfl
theorem in21 : tyInt Tryd.prog 21 = some .i32 := by kernel_rfl
theorem bo21 : tyBool Tryd.prog 21 = false := by kernel_rfl
theorem st21 : tyStr Tryd.prog 21 = false := by kernel_rfl
theorem ze21 : tyZ Tryd.prog 21 = some [.val (.int .i32 0)] := by kernel_rfl
theorem nk22 : tyNil Tryd.prog 22 = some .slice := by kernel_rfl
theorem ag22 : tyAgg Tryd.prog 22 = some false := by kernel_rfl
theorem sz22 : tySz Tryd.prog 22 = some 1 := by kernel_rfl
theorem by22 : tyBy Tryd.prog 22 = some 24 := by kernel_rfl
theorem un22 : (Tryd.prog.underlying 22).isSome = true := by kernel_rfl
theorem ni22 : tyNoIf Tryd.prog 22 = true := by kernel_rfl
theorem zo22 : tyZ1 Tryd.prog 22 = some ((.slice none 0 0)) := by kernel_rfl
theorem ke22 : tyKsE Tryd.prog 22 = [none] := by kernel_rfl
theorem kt22 : tyKsT Tryd.prog 22 = [some 1] := by kernel_rfl
theorem el22 : tyEl Tryd.prog 22 = some 3 := by kernel_rfl
theorem bo22 : tyBool Tryd.prog 22 = false := by kernel_rfl
theorem st22 : tyStr Tryd.prog 22 = false := by kernel_rfl
theorem ze22 : tyZ Tryd.prog 22 = some [.val (.slice none 0 0)] := by kernel_rfl
theorem ag23 : tyAgg Tryd.prog 23 = some false := by kernel_rfl
theorem sz23 : tySz Tryd.prog 23 = some 1 := by kernel_rfl
theorem by23 : tyBy Tryd.prog 23 = some 8 := by kernel_rfl
theorem un23 : (Tryd.prog.underlying 23).isSome = true := by kernel_rfl
theorem ni23 : tyNoIf Tryd.prog 23 = true := by kernel_rfl
theorem zo23 : tyZ1 Tryd.prog 23 = some ((.int .i64 0)) := by kernel_rfl
theorem kt23 : tyKsT Tryd.prog 23 = [none] := by kernel_rfl
theorem in23 : tyInt Tryd.prog 23 = some .i64 := by kernel_rfl
theorem bo23 : tyBool Tryd.prog 23 = false := by kernel_rfl
theorem st23 : tyStr Tryd.prog 23 = false := by kernel_rfl
theorem ze23 : tyZ Tryd.prog 23 = some [.val (.int .i64 0)] := by kernel_rfl
theorem nk25 : tyNil Tryd.prog 25 = some .func := by kernel_rfl
theorem ag25 : tyAgg Tryd.prog 25 = some false := by kernel_rfl
theorem sz25 : tySz Tryd.prog 25 = some 1 := by kernel_rfl
theorem by25 : tyBy Tryd.prog 25 = some 8 := by kernel_rfl
theorem un25 : (Tryd.prog.underlying 25).isSome = true := by kernel_rfl
theorem ni25 : tyNoIf Tryd.prog 25 = true := by kernel_rfl
theorem kt25 : tyKsT Tryd.prog 25 = [none] := by kernel_rfl
theorem bo25 : tyBool Tryd.prog 25 = false := by kernel_rfl
theorem st25 : tyStr Tryd.prog 25 = false := by kernel_rfl
theorem ze25 : tyZ Tryd.prog 25 = some [.val .nilFunc] := by kernel_rfl
theorem nk26 : tyNil Tryd.prog 26 = some .func := by kernel_rfl
theorem ag26 : tyAgg Tryd.prog 26 = some false := by kernel_rfl
theorem sz26 : tySz Tryd.prog 26 = some 1 := by kernel_rfl
theorem by26 : tyBy Tryd.prog 26 = some 8 := by kernel_rfl
theorem un26 : (Tryd.prog.underlying 26).isSome = true := by kernel_rfl
theorem ni26 : tyNoIf Tryd.prog 26 = true := by kernel_rfl
theorem kt26 : tyKsT Tryd.prog 26 = [none] := by kernel_rfl
theorem bo26 : tyBool Tryd.prog 26 = false := by kernel_rfl
theorem st26 : tyStr Tryd.prog 26 = false := by kernel_rfl
theorem ze26 : tyZ Tryd.prog 26 = some [.val .nilFunc] := by kernel_rfl
theorem nk27 : tyNil Tryd.prog 27 = some .func := by kernel_rfl
theorem ag27 : tyAgg Tryd.prog 27 = some false := by kernel_rfl
theorem sz27 : tySz Tryd.prog 27 = some 1 := by kernel_rfl
theorem by27 : tyBy Tryd.prog 27 = some 8 := by kernel_rfl
theorem un27 : (Tryd.prog.underlying 27).isSome = true := by kernel_rfl
theorem ni27 : tyNoIf Tryd.prog 27 = true := by kernel_rfl
theorem kt27 : tyKsT Tryd.prog 27 = [none] := by kernel_rfl
theorem bo27 : tyBool Tryd.prog 27 = false := by kernel_rfl
theorem st27 : tyStr Tryd.prog 27 = false := by kernel_rfl
theorem ze27 : tyZ Tryd.prog 27 = some [.val .nilFunc] := by kernel_rfl
theorem nk29 : tyNil Tryd.prog 29 = some .func := by kernel_rfl
theorem ag29 : tyAgg Tryd.prog 29 = some false := by kernel_rfl
theorem sz29 : tySz Tryd.prog 29 = some 1 := by kernel_rfl
theorem by29 : tyBy Tryd.prog 29 = some 8 := by kernel_rfl
theorem un29 : (Tryd.prog.underlying 29).isSome = true := by kernel_rfl
theorem ni29 : tyNoIf Tryd.prog 29 = true := by kernel_rfl
theorem kt29 : tyKsT Tryd.prog 29 = [none] := by kernel_rfl
theorem bo29 : tyBool Tryd.prog 29 = false := by kernel_rfl
theorem st29 : tyStr Tryd.prog 29 = false := by kernel_rfl
theorem ze29 : tyZ Tryd.prog 29 = some [.val .nilFunc] := by kernel_rfl
theorem nk30 : tyNil Tryd.prog 30 = some .func := by kernel_rfl
theorem ag30 : tyAgg Tryd.prog 30 = some false := by kernel_rfl
theorem sz30 : tySz Tryd.prog 30 = some 1 := by kernel_rfl
theorem by30 : tyBy Tryd.prog 30 = some 8 := by kernel_rfl
theorem un30 : (Tryd.prog.underlying 30).isSome = true := by kernel_rfl
theorem ni30 : tyNoIf Tryd.prog 30 = true := by kernel_rfl
theorem kt30 : tyKsT Tryd.prog 30 = [none] := by kernel_rfl
theorem bo30 : tyBool Tryd.prog 30 = false := by kernel_rfl
theorem st30 : tyStr Tryd.prog 30 = false := by kernel_rfl
theorem ze30 : tyZ Tryd.prog 30 = some [.val .nilFunc] := by kernel_rfl
theorem nk31 : tyNil Tryd.prog 31 = some .slice := by kernel_rfl
theorem ag31 : tyAgg Tryd.prog 31 = some false := by kernel_rfl
theorem sz31 : tySz Tryd.prog 31 = some 1 := by kernel_rfl
theorem by31 : tyBy Tryd.prog 31 = some 24 := by kernel_rfl
theorem un31 : (Tryd.prog.underlying 31).isSome = true := by kernel_rfl
theorem ni31 : tyNoIf Tryd.prog 31 = true := by kernel_rfl
theorem zo31 : tyZ1 Tryd.prog 31 = some ((.slice none 0 0)) := by kernel_rfl
theorem ke31 : tyKsE Tryd.prog 31 = [none, none] := by kernel_rfl
theorem kt31 : tyKsT Tryd.prog 31 = [some 2] := by kernel_rfl
theorem el31 : tyEl Tryd.prog 31 = some 38 := by kernel_rfl
theorem bo31 : tyBool Tryd.prog 31 = false := by kernel_rfl
theorem st31 : tyStr Tryd.prog 31 = false := by kernel_rfl
theorem ze31 : tyZ Tryd.prog 31 = some [.val (.slice none 0 0)] := by kernel_rfl
theorem nk32 : tyNil Tryd.prog 32 = some .slice := by kernel_rfl
theorem ag32 : tyAgg Tryd.prog 32 = some false := by kernel_rfl
theorem sz32 : tySz Tryd.prog 32 = some 1 := by kernel_rfl
theorem by32 : tyBy Tryd.prog 32 = some 24 := by kernel_rfl
theorem un32 : (Tryd.prog.underlying 32).isSome = true := by kernel_rfl
theorem ni32 : tyNoIf Tryd.prog 32 = true := by kernel_rfl
theorem zo32 : tyZ1 Tryd.prog 32 = some ((.slice none 0 0)) := by kernel_rfl
theorem ke32 : tyKsE Tryd.prog 32 = [none] := by kernel_rfl
theorem kt32 : tyKsT Tryd.prog 32 = [some 1] := by kernel_rfl
theorem el32 : tyEl Tryd.prog 32 = some 9 := by kernel_rfl
theorem bo32 : tyBool Tryd.prog 32 = false := by kernel_rfl
theorem st32 : tyStr Tryd.prog 32 = false := by kernel_rfl
theorem ze32 : tyZ Tryd.prog 32 = some [.val (.slice none 0 0)] := by kernel_rfl
theorem ag33 : tyAgg Tryd.prog 33 = some true := by kernel_rfl
theorem sz33 : tySz Tryd.prog 33 = some 4 := by kernel_rfl
theorem by33 : tyBy Tryd.prog 33 = some 72 := by kernel_rfl
theorem un33 : (Tryd.prog.underlying 33).isSome = true := by kernel_rfl
theorem ni33 : tyNoIf Tryd.prog 33 = true := by kernel_rfl
theorem kt33 : tyKsT Tryd.prog 33 = [none, none, some 2, some 1] := by kernel_rfl
theorem bo33 : tyBool Tryd.prog 33 = false := by kernel_rfl
theorem st33 : tyStr Tryd.prog 33 = false := by kernel_rfl
theorem ze33 : tyZ Tryd.prog 33 = some [.val (.string ⟨#[]⟩), .val (.int .i64 0), .val (.slice none 0 0), .val (.slice none 0 0)] := by kernel_rfl
theorem fi33 : tyF Tryd.prog 33 = some [(0, 1), (1, 1), (2, 1), (3, 1)] := by kernel_rfl
theorem fa33_0 : tyFA Tryd.prog 33 0 = some 0 := by kernel_rfl
theorem ft33_0 : tyFT Tryd.prog 33 0 = some (0, 9) := by kernel_rfl
theorem fa33_1 : tyFA Tryd.prog 33 1 = some 1 := by kernel_rfl
theorem ft33_1 : tyFT Tryd.prog 33 1 = some (1, 3) := by kernel_rfl
theorem fa33_2 : tyFA Tryd.prog 33 2 = some 2 := by kernel_rfl
theorem ft33_2 : tyFT Tryd.prog 33 2 = some (2, 31) := by kernel_rfl
theorem fa33_3 : tyFA Tryd.prog 33 3 = some 3 := by kernel_rfl
theorem ft33_3 : tyFT Tryd.prog 33 3 = some (3, 32) := by kernel_rfl
theorem ag34 : tyAgg Tryd.prog 34 = some true := by kernel_rfl
theorem sz34 : tySz Tryd.prog 34 = some 4 := by kernel_rfl
theorem by34 : tyBy Tryd.prog 34 = some 72 := by kernel_rfl
theorem un34 : (Tryd.prog.underlying 34).isSome = true := by kernel_rfl
theorem ni34 : tyNoIf Tryd.prog 34 = true := by kernel_rfl
theorem kt34 : tyKsT Tryd.prog 34 = [none, none, some 2, some 1] := by kernel_rfl
theorem bo34 : tyBool Tryd.prog 34 = false := by kernel_rfl
theorem st34 : tyStr Tryd.prog 34 = false := by kernel_rfl
theorem ze34 : tyZ Tryd.prog 34 = some [.val (.string ⟨#[]⟩), .val (.int .i64 0), .val (.slice none 0 0), .val (.slice none 0 0)] := by kernel_rfl
theorem fi34 : tyF Tryd.prog 34 = some [(0, 1), (1, 1), (2, 1), (3, 1)] := by kernel_rfl
theorem fa34_0 : tyFA Tryd.prog 34 0 = some 0 := by kernel_rfl
theorem ft34_0 : tyFT Tryd.prog 34 0 = some (0, 9) := by kernel_rfl
theorem fa34_1 : tyFA Tryd.prog 34 1 = some 1 := by kernel_rfl
theorem ft34_1 : tyFT Tryd.prog 34 1 = some (1, 3) := by kernel_rfl
theorem fa34_2 : tyFA Tryd.prog 34 2 = some 2 := by kernel_rfl
theorem ft34_2 : tyFT Tryd.prog 34 2 = some (2, 31) := by kernel_rfl
theorem fa34_3 : tyFA Tryd.prog 34 3 = some 3 := by kernel_rfl
theorem ft34_3 : tyFT Tryd.prog 34 3 = some (3, 32) := by kernel_rfl
theorem nk36 : tyNil Tryd.prog 36 = some .func := by kernel_rfl
theorem ag36 : tyAgg Tryd.prog 36 = some false := by kernel_rfl
theorem sz36 : tySz Tryd.prog 36 = some 1 := by kernel_rfl
theorem by36 : tyBy Tryd.prog 36 = some 8 := by kernel_rfl
theorem un36 : (Tryd.prog.underlying 36).isSome = true := by kernel_rfl
theorem ni36 : tyNoIf Tryd.prog 36 = true := by kernel_rfl
theorem kt36 : tyKsT Tryd.prog 36 = [none] := by kernel_rfl
theorem bo36 : tyBool Tryd.prog 36 = false := by kernel_rfl
theorem st36 : tyStr Tryd.prog 36 = false := by kernel_rfl
theorem ze36 : tyZ Tryd.prog 36 = some [.val .nilFunc] := by kernel_rfl
theorem ag37 : tyAgg Tryd.prog 37 = some true := by kernel_rfl
theorem sz37 : tySz Tryd.prog 37 = some 2 := by kernel_rfl
theorem by37 : tyBy Tryd.prog 37 = some 32 := by kernel_rfl
theorem un37 : (Tryd.prog.underlying 37).isSome = true := by kernel_rfl
theorem ni37 : tyNoIf Tryd.prog 37 = true := by kernel_rfl
theorem kt37 : tyKsT Tryd.prog 37 = [none, none] := by kernel_rfl
theorem bo37 : tyBool Tryd.prog 37 = false := by kernel_rfl
theorem st37 : tyStr Tryd.prog 37 = false := by kernel_rfl
theorem ze37 : tyZ Tryd.prog 37 = some [.val (.string ⟨#[]⟩), .val (.string ⟨#[]⟩)] := by kernel_rfl
theorem fi37 : tyF Tryd.prog 37 = some [(0, 1), (1, 1)] := by kernel_rfl
theorem fa37_0 : tyFA Tryd.prog 37 0 = some 0 := by kernel_rfl
theorem ft37_0 : tyFT Tryd.prog 37 0 = some (0, 9) := by kernel_rfl
theorem fa37_1 : tyFA Tryd.prog 37 1 = some 1 := by kernel_rfl
theorem ft37_1 : tyFT Tryd.prog 37 1 = some (1, 9) := by kernel_rfl
theorem ag38 : tyAgg Tryd.prog 38 = some true := by kernel_rfl
theorem sz38 : tySz Tryd.prog 38 = some 2 := by kernel_rfl
theorem by38 : tyBy Tryd.prog 38 = some 32 := by kernel_rfl
theorem un38 : (Tryd.prog.underlying 38).isSome = true := by kernel_rfl
theorem ni38 : tyNoIf Tryd.prog 38 = true := by kernel_rfl
theorem kt38 : tyKsT Tryd.prog 38 = [none, none] := by kernel_rfl
theorem bo38 : tyBool Tryd.prog 38 = false := by kernel_rfl
theorem st38 : tyStr Tryd.prog 38 = false := by kernel_rfl
theorem ze38 : tyZ Tryd.prog 38 = some [.val (.string ⟨#[]⟩), .val (.string ⟨#[]⟩)] := by kernel_rfl
theorem eq38 : tyEq Tryd.prog 38 = some [.str, .str] := by kernel_rfl
theorem fi38 : tyF Tryd.prog 38 = some [(0, 1), (1, 1)] := by kernel_rfl
theorem fa38_0 : tyFA Tryd.prog 38 0 = some 0 := by kernel_rfl
theorem ft38_0 : tyFT Tryd.prog 38 0 = some (0, 9) := by kernel_rfl
theorem fa38_1 : tyFA Tryd.prog 38 1 = some 1 := by kernel_rfl
theorem ft38_1 : tyFT Tryd.prog 38 1 = some (1, 9) := by kernel_rfl
theorem nk40 : tyNil Tryd.prog 40 = some .func := by kernel_rfl
theorem ag40 : tyAgg Tryd.prog 40 = some false := by kernel_rfl
theorem sz40 : tySz Tryd.prog 40 = some 1 := by kernel_rfl
theorem by40 : tyBy Tryd.prog 40 = some 8 := by kernel_rfl
theorem un40 : (Tryd.prog.underlying 40).isSome = true := by kernel_rfl
theorem ni40 : tyNoIf Tryd.prog 40 = true := by kernel_rfl
theorem kt40 : tyKsT Tryd.prog 40 = [none] := by kernel_rfl
theorem bo40 : tyBool Tryd.prog 40 = false := by kernel_rfl
theorem st40 : tyStr Tryd.prog 40 = false := by kernel_rfl
theorem ze40 : tyZ Tryd.prog 40 = some [.val .nilFunc] := by kernel_rfl
theorem nk41 : tyNil Tryd.prog 41 = some .func := by kernel_rfl
theorem ag41 : tyAgg Tryd.prog 41 = some false := by kernel_rfl
theorem sz41 : tySz Tryd.prog 41 = some 1 := by kernel_rfl
theorem by41 : tyBy Tryd.prog 41 = some 8 := by kernel_rfl
theorem un41 : (Tryd.prog.underlying 41).isSome = true := by kernel_rfl
theorem ni41 : tyNoIf Tryd.prog 41 = true := by kernel_rfl
theorem kt41 : tyKsT Tryd.prog 41 = [none] := by kernel_rfl
theorem bo41 : tyBool Tryd.prog 41 = false := by kernel_rfl
theorem st41 : tyStr Tryd.prog 41 = false := by kernel_rfl
theorem ze41 : tyZ Tryd.prog 41 = some [.val .nilFunc] := by kernel_rfl
theorem nk42 : tyNil Tryd.prog 42 = some .func := by kernel_rfl
theorem ag42 : tyAgg Tryd.prog 42 = some false := by kernel_rfl
theorem sz42 : tySz Tryd.prog 42 = some 1 := by kernel_rfl
theorem by42 : tyBy Tryd.prog 42 = some 8 := by kernel_rfl
theorem un42 : (Tryd.prog.underlying 42).isSome = true := by kernel_rfl
theorem ni42 : tyNoIf Tryd.prog 42 = true := by kernel_rfl
theorem kt42 : tyKsT Tryd.prog 42 = [none] := by kernel_rfl
theorem bo42 : tyBool Tryd.prog 42 = false := by kernel_rfl
theorem st42 : tyStr Tryd.prog 42 = false := by kernel_rfl
theorem ze42 : tyZ Tryd.prog 42 = some [.val .nilFunc] := by kernel_rfl
theorem nk43 : tyNil Tryd.prog 43 = some .func := by kernel_rfl
theorem ag43 : tyAgg Tryd.prog 43 = some false := by kernel_rfl
theorem sz43 : tySz Tryd.prog 43 = some 1 := by kernel_rfl
theorem by43 : tyBy Tryd.prog 43 = some 8 := by kernel_rfl
theorem un43 : (Tryd.prog.underlying 43).isSome = true := by kernel_rfl
theorem ni43 : tyNoIf Tryd.prog 43 = true := by kernel_rfl
theorem kt43 : tyKsT Tryd.prog 43 = [none] := by kernel_rfl
theorem bo43 : tyBool Tryd.prog 43 = false := by kernel_rfl
theorem st43 : tyStr Tryd.prog 43 = false := by kernel_rfl
theorem ze43 : tyZ Tryd.prog 43 = some [.val .nilFunc] := by kernel_rfl
theorem ag44 : tyAgg Tryd.prog 44 = some true := by kernel_rfl
theorem sz44 : tySz Tryd.prog 44 = some 3 := by kernel_rfl
theorem by44 : tyBy Tryd.prog 44 = some 24 := by kernel_rfl
theorem un44 : (Tryd.prog.underlying 44).isSome = true := by kernel_rfl
theorem ni44 : tyNoIf Tryd.prog 44 = true := by kernel_rfl
theorem kt44 : tyKsT Tryd.prog 44 = [none, none, none] := by kernel_rfl
theorem bo44 : tyBool Tryd.prog 44 = false := by kernel_rfl
theorem st44 : tyStr Tryd.prog 44 = false := by kernel_rfl
theorem ze44 : tyZ Tryd.prog 44 = some [.val (.int .i64 0), .val (.int .i64 0), .val (.int .i64 0)] := by kernel_rfl
theorem fi44 : tyF Tryd.prog 44 = some [(0, 1), (1, 1), (2, 1)] := by kernel_rfl
theorem fa44_0 : tyFA Tryd.prog 44 0 = some 0 := by kernel_rfl
theorem ft44_0 : tyFT Tryd.prog 44 0 = some (0, 3) := by kernel_rfl
theorem fa44_1 : tyFA Tryd.prog 44 1 = some 1 := by kernel_rfl
theorem ft44_1 : tyFT Tryd.prog 44 1 = some (1, 3) := by kernel_rfl
theorem fa44_2 : tyFA Tryd.prog 44 2 = some 2 := by kernel_rfl
theorem ft44_2 : tyFT Tryd.prog 44 2 = some (2, 3) := by kernel_rfl
theorem ag45 : tyAgg Tryd.prog 45 = some true := by kernel_rfl
theorem sz45 : tySz Tryd.prog 45 = some 3 := by kernel_rfl
theorem by45 : tyBy Tryd.prog 45 = some 24 := by kernel_rfl
theorem un45 : (Tryd.prog.underlying 45).isSome = true := by kernel_rfl
theorem ni45 : tyNoIf Tryd.prog 45 = true := by kernel_rfl
theorem kt45 : tyKsT Tryd.prog 45 = [none, none, none] := by kernel_rfl
theorem bo45 : tyBool Tryd.prog 45 = false := by kernel_rfl
theorem st45 : tyStr Tryd.prog 45 = false := by kernel_rfl
theorem ze45 : tyZ Tryd.prog 45 = some [.val (.int .i64 0), .val (.int .i64 0), .val (.int .i64 0)] := by kernel_rfl
theorem eq45 : tyEq Tryd.prog 45 = some [.int .i64, .int .i64, .int .i64] := by kernel_rfl
theorem fi45 : tyF Tryd.prog 45 = some [(0, 1), (1, 1), (2, 1)] := by kernel_rfl
theorem fa45_0 : tyFA Tryd.prog 45 0 = some 0 := by kernel_rfl
theorem ft45_0 : tyFT Tryd.prog 45 0 = some (0, 3) := by kernel_rfl
theorem fa45_1 : tyFA Tryd.prog 45 1 = some 1 := by kernel_rfl
theorem ft45_1 : tyFT Tryd.prog 45 1 = some (1, 3) := by kernel_rfl
theorem fa45_2 : tyFA Tryd.prog 45 2 = some 2 := by kernel_rfl
theorem ft45_2 : tyFT Tryd.prog 45 2 = some (2, 3) := by kernel_rfl
theorem nk46 : tyNil Tryd.prog 46 = some .slice := by kernel_rfl
theorem ag46 : tyAgg Tryd.prog 46 = some false := by kernel_rfl
theorem sz46 : tySz Tryd.prog 46 = some 1 := by kernel_rfl
theorem by46 : tyBy Tryd.prog 46 = some 24 := by kernel_rfl
theorem un46 : (Tryd.prog.underlying 46).isSome = true := by kernel_rfl
theorem ni46 : tyNoIf Tryd.prog 46 = true := by kernel_rfl
theorem zo46 : tyZ1 Tryd.prog 46 = some ((.slice none 0 0)) := by kernel_rfl
theorem ke46 : tyKsE Tryd.prog 46 = [none, none, none, none, none, none] := by kernel_rfl
theorem kt46 : tyKsT Tryd.prog 46 = [some 6] := by kernel_rfl
theorem el46 : tyEl Tryd.prog 46 = some 95 := by kernel_rfl
theorem bo46 : tyBool Tryd.prog 46 = false := by kernel_rfl
theorem st46 : tyStr Tryd.prog 46 = false := by kernel_rfl
theorem ze46 : tyZ Tryd.prog 46 = some [.val (.slice none 0 0)] := by kernel_rfl
theorem ag47 : tyAgg Tryd.prog 47 = some true := by kernel_rfl
theorem sz47 : tySz Tryd.prog 47 = some 12 := by kernel_rfl
theorem by47 : tyBy Tryd.prog 47 = some 176 := by kernel_rfl
theorem un47 : (Tryd.prog.underlying 47).isSome = true := by kernel_rfl
theorem ni47 : tyNoIf Tryd.prog 47 = true := by kernel_rfl
theorem kt47 : tyKsT Tryd.prog 47 = [none, none, none, none, some 6, none, none, some 2, some 1, none, none, none] := by kernel_rfl
theorem bo47 : tyBool Tryd.prog 47 = false := by kernel_rfl
theorem st47 : tyStr Tryd.prog 47 = false := by kernel_rfl
theorem ze47 : tyZ Tryd.prog 47 = some [.val (.int .i64 0), .val (.int .i64 0), .val (.int .i64 0), .val (.int .i64 0), .val (.slice none 0 0), .val (.string ⟨#[]⟩), .val (.int .i64 0), .val (.slice none 0 0), .val (.slice none 0 0), .val (.string ⟨#[]⟩), .val (.string ⟨#[]⟩), .val (.string ⟨#[]⟩)] := by kernel_rfl
theorem fi47 : tyF Tryd.prog 47 = some [(0, 1), (1, 3), (4, 1), (5, 4), (9, 1), (10, 2)] := by kernel_rfl
theorem fa47_0 : tyFA Tryd.prog 47 0 = some 0 := by kernel_rfl
theorem ft47_0 : tyFT Tryd.prog 47 0 = some (0, 3) := by kernel_rfl
theorem fa47_1 : tyFA Tryd.prog 47 1 = some 1 := by kernel_rfl
theorem ft47_1 : tyFT Tryd.prog 47 1 = some (1, 45) := by kernel_rfl
theorem fa47_2 : tyFA Tryd.prog 47 2 = some 4 := by kernel_rfl
theorem ft47_2 : tyFT Tryd.prog 47 2 = some (4, 46) := by kernel_rfl
theorem fa47_3 : tyFA Tryd.prog 47 3 = some 5 := by kernel_rfl
theorem ft47_3 : tyFT Tryd.prog 47 3 = some (5, 34) := by kernel_rfl
theorem fa47_4 : tyFA Tryd.prog 47 4 = some 9 := by kernel_rfl
theorem ft47_4 : tyFT Tryd.prog 47 4 = some (9, 9) := by kernel_rfl
theorem fa47_5 : tyFA Tryd.prog 47 5 = some 10 := by kernel_rfl
theorem ft47_5 : tyFT Tryd.prog 47 5 = some (10, 38) := by kernel_rfl
theorem ag48 : tyAgg Tryd.prog 48 = some true := by kernel_rfl
theorem sz48 : tySz Tryd.prog 48 = some 12 := by kernel_rfl
theorem by48 : tyBy Tryd.prog 48 = some 176 := by kernel_rfl
theorem un48 : (Tryd.prog.underlying 48).isSome = true := by kernel_rfl
theorem ni48 : tyNoIf Tryd.prog 48 = true := by kernel_rfl
theorem kt48 : tyKsT Tryd.prog 48 = [none, none, none, none, some 6, none, none, some 2, some 1, none, none, none] := by kernel_rfl
theorem bo48 : tyBool Tryd.prog 48 = false := by kernel_rfl
theorem st48 : tyStr Tryd.prog 48 = false := by kernel_rfl
theorem ze48 : tyZ Tryd.prog 48 = some [.val (.int .i64 0), .val (.int .i64 0), .val (.int .i64 0), .val (.int .i64 0), .val (.slice none 0 0), .val (.string ⟨#[]⟩), .val (.int .i64 0), .val (.slice none 0 0), .val (.slice none 0 0), .val (.string ⟨#[]⟩), .val (.string ⟨#[]⟩), .val (.string ⟨#[]⟩)] := by kernel_rfl
theorem fi48 : tyF Tryd.prog 48 = some [(0, 1), (1, 3), (4, 1), (5, 4), (9, 1), (10, 2)] := by kernel_rfl
theorem fa48_0 : tyFA Tryd.prog 48 0 = some 0 := by kernel_rfl
theorem ft48_0 : tyFT Tryd.prog 48 0 = some (0, 3) := by kernel_rfl
theorem fa48_1 : tyFA Tryd.prog 48 1 = some 1 := by kernel_rfl
theorem ft48_1 : tyFT Tryd.prog 48 1 = some (1, 45) := by kernel_rfl
theorem fa48_2 : tyFA Tryd.prog 48 2 = some 4 := by kernel_rfl
theorem ft48_2 : tyFT Tryd.prog 48 2 = some (4, 46) := by kernel_rfl
theorem fa48_3 : tyFA Tryd.prog 48 3 = some 5 := by kernel_rfl
theorem ft48_3 : tyFT Tryd.prog 48 3 = some (5, 34) := by kernel_rfl
theorem fa48_4 : tyFA Tryd.prog 48 4 = some 9 := by kernel_rfl
theorem ft48_4 : tyFT Tryd.prog 48 4 = some (9, 9) := by kernel_rfl
theorem fa48_5 : tyFA Tryd.prog 48 5 = some 10 := by kernel_rfl
theorem ft48_5 : tyFT Tryd.prog 48 5 = some (10, 38) := by kernel_rfl
theorem nk49 : tyNil Tryd.prog 49 = some .func := by kernel_rfl
theorem ag49 : tyAgg Tryd.prog 49 = some false := by kernel_rfl
theorem sz49 : tySz Tryd.prog 49 = some 1 := by kernel_rfl
theorem by49 : tyBy Tryd.prog 49 = some 8 := by kernel_rfl
theorem un49 : (Tryd.prog.underlying 49).isSome = true := by kernel_rfl
theorem ni49 : tyNoIf Tryd.prog 49 = true := by kernel_rfl
theorem kt49 : tyKsT Tryd.prog 49 = [none] := by kernel_rfl
theorem bo49 : tyBool Tryd.prog 49 = false := by kernel_rfl
theorem st49 : tyStr Tryd.prog 49 = false := by kernel_rfl
theorem ze49 : tyZ Tryd.prog 49 = some [.val .nilFunc] := by kernel_rfl
theorem nk50 : tyNil Tryd.prog 50 = some .func := by kernel_rfl
theorem ag50 : tyAgg Tryd.prog 50 = some false := by kernel_rfl
theorem sz50 : tySz Tryd.prog 50 = some 1 := by kernel_rfl
theorem by50 : tyBy Tryd.prog 50 = some 8 := by kernel_rfl
theorem un50 : (Tryd.prog.underlying 50).isSome = true := by kernel_rfl
theorem ni50 : tyNoIf Tryd.prog 50 = true := by kernel_rfl
theorem kt50 : tyKsT Tryd.prog 50 = [none] := by kernel_rfl
theorem bo50 : tyBool Tryd.prog 50 = false := by kernel_rfl
theorem st50 : tyStr Tryd.prog 50 = false := by kernel_rfl
theorem ze50 : tyZ Tryd.prog 50 = some [.val .nilFunc] := by kernel_rfl
theorem nk52 : tyNil Tryd.prog 52 = some .func := by kernel_rfl
theorem ag52 : tyAgg Tryd.prog 52 = some false := by kernel_rfl
theorem sz52 : tySz Tryd.prog 52 = some 1 := by kernel_rfl
theorem by52 : tyBy Tryd.prog 52 = some 8 := by kernel_rfl
theorem un52 : (Tryd.prog.underlying 52).isSome = true := by kernel_rfl
theorem ni52 : tyNoIf Tryd.prog 52 = true := by kernel_rfl
theorem kt52 : tyKsT Tryd.prog 52 = [none] := by kernel_rfl
theorem bo52 : tyBool Tryd.prog 52 = false := by kernel_rfl
theorem st52 : tyStr Tryd.prog 52 = false := by kernel_rfl
theorem ze52 : tyZ Tryd.prog 52 = some [.val .nilFunc] := by kernel_rfl
theorem nk53 : tyNil Tryd.prog 53 = some .slice := by kernel_rfl
theorem ag53 : tyAgg Tryd.prog 53 = some false := by kernel_rfl
theorem sz53 : tySz Tryd.prog 53 = some 1 := by kernel_rfl
theorem by53 : tyBy Tryd.prog 53 = some 24 := by kernel_rfl
theorem un53 : (Tryd.prog.underlying 53).isSome = true := by kernel_rfl
theorem ni53 : tyNoIf Tryd.prog 53 = true := by kernel_rfl
theorem zo53 : tyZ1 Tryd.prog 53 = some ((.slice none 0 0)) := by kernel_rfl
theorem ke53 : tyKsE Tryd.prog 53 = [none] := by kernel_rfl
theorem kt53 : tyKsT Tryd.prog 53 = [some 1] := by kernel_rfl
theorem el53 : tyEl Tryd.prog 53 = some 5 := by kernel_rfl
theorem bo53 : tyBool Tryd.prog 53 = false := by kernel_rfl
theorem st53 : tyStr Tryd.prog 53 = false := by kernel_rfl
theorem ze53 : tyZ Tryd.prog 53 = some [.val (.slice none 0 0)] := by kernel_rfl
theorem nk54 : tyNil Tryd.prog 54 = some .func := by kernel_rfl
theorem ag54 : tyAgg Tryd.prog 54 = some false := by kernel_rfl
theorem sz54 : tySz Tryd.prog 54 = some 1 := by kernel_rfl
theorem by54 : tyBy Tryd.prog 54 = some 8 := by kernel_rfl
theorem un54 : (Tryd.prog.underlying 54).isSome = true := by kernel_rfl
theorem ni54 : tyNoIf Tryd.prog 54 = true := by kernel_rfl
theorem kt54 : tyKsT Tryd.prog 54 = [none] := by kernel_rfl
theorem bo54 : tyBool Tryd.prog 54 = false := by kernel_rfl
theorem st54 : tyStr Tryd.prog 54 = false := by kernel_rfl
theorem ze54 : tyZ Tryd.prog 54 = some [.val .nilFunc] := by kernel_rfl
theorem nk55 : tyNil Tryd.prog 55 = some .func := by kernel_rfl
theorem ag55 : tyAgg Tryd.prog 55 = some false := by kernel_rfl
theorem sz55 : tySz Tryd.prog 55 = some 1 := by kernel_rfl
theorem by55 : tyBy Tryd.prog 55 = some 8 := by kernel_rfl
theorem un55 : (Tryd.prog.underlying 55).isSome = true := by kernel_rfl
theorem ni55 : tyNoIf Tryd.prog 55 = true := by kernel_rfl
theorem kt55 : tyKsT Tryd.prog 55 = [none] := by kernel_rfl
theorem bo55 : tyBool Tryd.prog 55 = false := by kernel_rfl
theorem st55 : tyStr Tryd.prog 55 = false := by kernel_rfl
theorem ze55 : tyZ Tryd.prog 55 = some [.val .nilFunc] := by kernel_rfl
theorem nk56 : tyNil Tryd.prog 56 = some .func := by kernel_rfl
theorem ag56 : tyAgg Tryd.prog 56 = some false := by kernel_rfl
theorem sz56 : tySz Tryd.prog 56 = some 1 := by kernel_rfl
theorem by56 : tyBy Tryd.prog 56 = some 8 := by kernel_rfl
theorem un56 : (Tryd.prog.underlying 56).isSome = true := by kernel_rfl
theorem ni56 : tyNoIf Tryd.prog 56 = true := by kernel_rfl
theorem kt56 : tyKsT Tryd.prog 56 = [none] := by kernel_rfl
theorem bo56 : tyBool Tryd.prog 56 = false := by kernel_rfl
theorem st56 : tyStr Tryd.prog 56 = false := by kernel_rfl
theorem ze56 : tyZ Tryd.prog 56 = some [.val .nilFunc] := by kernel_rfl
theorem nk57 : tyNil Tryd.prog 57 = some .func := by kernel_rfl
theorem ag57 : tyAgg Tryd.prog 57 = some false := by kernel_rfl
theorem sz57 : tySz Tryd.prog 57 = some 1 := by kernel_rfl
theorem by57 : tyBy Tryd.prog 57 = some 8 := by kernel_rfl
theorem un57 : (Tryd.prog.underlying 57).isSome = true := by kernel_rfl
theorem ni57 : tyNoIf Tryd.prog 57 = true := by kernel_rfl
theorem kt57 : tyKsT Tryd.prog 57 = [none] := by kernel_rfl
theorem bo57 : tyBool Tryd.prog 57 = false := by kernel_rfl
theorem st57 : tyStr Tryd.prog 57 = false := by kernel_rfl
theorem ze57 : tyZ Tryd.prog 57 = some [.val .nilFunc] := by kernel_rfl
theorem nk58 : tyNil Tryd.prog 58 = some .func := by kernel_rfl
theorem ag58 : tyAgg Tryd.prog 58 = some false := by kernel_rfl
theorem sz58 : tySz Tryd.prog 58 = some 1 := by kernel_rfl
theorem by58 : tyBy Tryd.prog 58 = some 8 := by kernel_rfl
theorem un58 : (Tryd.prog.underlying 58).isSome = true := by kernel_rfl
theorem ni58 : tyNoIf Tryd.prog 58 = true := by kernel_rfl
theorem kt58 : tyKsT Tryd.prog 58 = [none] := by kernel_rfl
theorem bo58 : tyBool Tryd.prog 58 = false := by kernel_rfl
theorem st58 : tyStr Tryd.prog 58 = false := by kernel_rfl
theorem ze58 : tyZ Tryd.prog 58 = some [.val .nilFunc] := by kernel_rfl
theorem nk59 : tyNil Tryd.prog 59 = some .slice := by kernel_rfl
theorem ag59 : tyAgg Tryd.prog 59 = some false := by kernel_rfl
theorem sz59 : tySz Tryd.prog 59 = some 1 := by kernel_rfl
theorem by59 : tyBy Tryd.prog 59 = some 24 := by kernel_rfl
theorem un59 : (Tryd.prog.underlying 59).isSome = true := by kernel_rfl
theorem ni59 : tyNoIf Tryd.prog 59 = true := by kernel_rfl
theorem zo59 : tyZ1 Tryd.prog 59 = some ((.slice none 0 0)) := by kernel_rfl
theorem ke59 : tyKsE Tryd.prog 59 = [none, none, none, none, some 6, none, none, some 2, some 1, none, none, none] := by kernel_rfl
theorem kt59 : tyKsT Tryd.prog 59 = [some 12] := by kernel_rfl
theorem el59 : tyEl Tryd.prog 59 = some 48 := by kernel_rfl
theorem bo59 : tyBool Tryd.prog 59 = false := by kernel_rfl
theorem st59 : tyStr Tryd.prog 59 = false := by kernel_rfl
theorem ze59 : tyZ Tryd.prog 59 = some [.val (.slice none 0 0)] := by kernel_rfl
theorem nk61 : tyNil Tryd.prog 61 = some .func := by kernel_rfl
theorem ag61 : tyAgg Tryd.prog 61 = some false := by kernel_rfl
theorem sz61 : tySz Tryd.prog 61 = some 1 := by kernel_rfl
theorem by61 : tyBy Tryd.prog 61 = some 8 := by kernel_rfl
theorem un61 : (Tryd.prog.underlying 61).isSome = true := by kernel_rfl
theorem ni61 : tyNoIf Tryd.prog 61 = true := by kernel_rfl
theorem kt61 : tyKsT Tryd.prog 61 = [none] := by kernel_rfl
theorem bo61 : tyBool Tryd.prog 61 = false := by kernel_rfl
theorem st61 : tyStr Tryd.prog 61 = false := by kernel_rfl
theorem ze61 : tyZ Tryd.prog 61 = some [.val .nilFunc] := by kernel_rfl
theorem nk63 : tyNil Tryd.prog 63 = some .func := by kernel_rfl
theorem ag63 : tyAgg Tryd.prog 63 = some false := by kernel_rfl
theorem sz63 : tySz Tryd.prog 63 = some 1 := by kernel_rfl
theorem by63 : tyBy Tryd.prog 63 = some 8 := by kernel_rfl
theorem un63 : (Tryd.prog.underlying 63).isSome = true := by kernel_rfl
theorem ni63 : tyNoIf Tryd.prog 63 = true := by kernel_rfl
theorem kt63 : tyKsT Tryd.prog 63 = [none] := by kernel_rfl
theorem bo63 : tyBool Tryd.prog 63 = false := by kernel_rfl
theorem st63 : tyStr Tryd.prog 63 = false := by kernel_rfl
theorem ze63 : tyZ Tryd.prog 63 = some [.val .nilFunc] := by kernel_rfl
theorem nk65 : tyNil Tryd.prog 65 = some .func := by kernel_rfl
theorem ag65 : tyAgg Tryd.prog 65 = some false := by kernel_rfl
theorem sz65 : tySz Tryd.prog 65 = some 1 := by kernel_rfl
theorem by65 : tyBy Tryd.prog 65 = some 8 := by kernel_rfl
theorem un65 : (Tryd.prog.underlying 65).isSome = true := by kernel_rfl
theorem ni65 : tyNoIf Tryd.prog 65 = true := by kernel_rfl
theorem kt65 : tyKsT Tryd.prog 65 = [none] := by kernel_rfl
theorem bo65 : tyBool Tryd.prog 65 = false := by kernel_rfl
theorem st65 : tyStr Tryd.prog 65 = false := by kernel_rfl
theorem ze65 : tyZ Tryd.prog 65 = some [.val .nilFunc] := by kernel_rfl
theorem nk66 : tyNil Tryd.prog 66 = some .func := by kernel_rfl
theorem ag66 : tyAgg Tryd.prog 66 = some false := by kernel_rfl
theorem sz66 : tySz Tryd.prog 66 = some 1 := by kernel_rfl
theorem by66 : tyBy Tryd.prog 66 = some 8 := by kernel_rfl
theorem un66 : (Tryd.prog.underlying 66).isSome = true := by kernel_rfl
theorem ni66 : tyNoIf Tryd.prog 66 = true := by kernel_rfl
theorem kt66 : tyKsT Tryd.prog 66 = [none] := by kernel_rfl
theorem bo66 : tyBool Tryd.prog 66 = false := by kernel_rfl
theorem st66 : tyStr Tryd.prog 66 = false := by kernel_rfl
theorem ze66 : tyZ Tryd.prog 66 = some [.val .nilFunc] := by kernel_rfl
theorem nk67 : tyNil Tryd.prog 67 = some .func := by kernel_rfl
theorem ag67 : tyAgg Tryd.prog 67 = some false := by kernel_rfl
theorem sz67 : tySz Tryd.prog 67 = some 1 := by kernel_rfl
theorem by67 : tyBy Tryd.prog 67 = some 8 := by kernel_rfl
theorem un67 : (Tryd.prog.underlying 67).isSome = true := by kernel_rfl
theorem ni67 : tyNoIf Tryd.prog 67 = true := by kernel_rfl
theorem kt67 : tyKsT Tryd.prog 67 = [none] := by kernel_rfl
theorem bo67 : tyBool Tryd.prog 67 = false := by kernel_rfl
theorem st67 : tyStr Tryd.prog 67 = false := by kernel_rfl
theorem ze67 : tyZ Tryd.prog 67 = some [.val .nilFunc] := by kernel_rfl
theorem nk68 : tyNil Tryd.prog 68 = some .func := by kernel_rfl
theorem ag68 : tyAgg Tryd.prog 68 = some false := by kernel_rfl
theorem sz68 : tySz Tryd.prog 68 = some 1 := by kernel_rfl
theorem by68 : tyBy Tryd.prog 68 = some 8 := by kernel_rfl
theorem un68 : (Tryd.prog.underlying 68).isSome = true := by kernel_rfl
theorem ni68 : tyNoIf Tryd.prog 68 = true := by kernel_rfl
theorem kt68 : tyKsT Tryd.prog 68 = [none] := by kernel_rfl
theorem bo68 : tyBool Tryd.prog 68 = false := by kernel_rfl
theorem st68 : tyStr Tryd.prog 68 = false := by kernel_rfl
theorem ze68 : tyZ Tryd.prog 68 = some [.val .nilFunc] := by kernel_rfl
theorem nk69 : tyNil Tryd.prog 69 = some .func := by kernel_rfl
theorem ag69 : tyAgg Tryd.prog 69 = some false := by kernel_rfl
theorem sz69 : tySz Tryd.prog 69 = some 1 := by kernel_rfl
theorem by69 : tyBy Tryd.prog 69 = some 8 := by kernel_rfl
theorem un69 : (Tryd.prog.underlying 69).isSome = true := by kernel_rfl
theorem ni69 : tyNoIf Tryd.prog 69 = true := by kernel_rfl
theorem kt69 : tyKsT Tryd.prog 69 = [none] := by kernel_rfl
theorem bo69 : tyBool Tryd.prog 69 = false := by kernel_rfl
theorem st69 : tyStr Tryd.prog 69 = false := by kernel_rfl
theorem ze69 : tyZ Tryd.prog 69 = some [.val .nilFunc] := by kernel_rfl
theorem nk70 : tyNil Tryd.prog 70 = some .func := by kernel_rfl
theorem ag70 : tyAgg Tryd.prog 70 = some false := by kernel_rfl
theorem sz70 : tySz Tryd.prog 70 = some 1 := by kernel_rfl
theorem by70 : tyBy Tryd.prog 70 = some 8 := by kernel_rfl
theorem un70 : (Tryd.prog.underlying 70).isSome = true := by kernel_rfl
theorem ni70 : tyNoIf Tryd.prog 70 = true := by kernel_rfl
theorem kt70 : tyKsT Tryd.prog 70 = [none] := by kernel_rfl
theorem bo70 : tyBool Tryd.prog 70 = false := by kernel_rfl
theorem st70 : tyStr Tryd.prog 70 = false := by kernel_rfl
theorem ze70 : tyZ Tryd.prog 70 = some [.val .nilFunc] := by kernel_rfl
theorem nk71 : tyNil Tryd.prog 71 = some .func := by kernel_rfl
theorem ag71 : tyAgg Tryd.prog 71 = some false := by kernel_rfl
theorem sz71 : tySz Tryd.prog 71 = some 1 := by kernel_rfl
theorem by71 : tyBy Tryd.prog 71 = some 8 := by kernel_rfl
theorem un71 : (Tryd.prog.underlying 71).isSome = true := by kernel_rfl
theorem ni71 : tyNoIf Tryd.prog 71 = true := by kernel_rfl
theorem kt71 : tyKsT Tryd.prog 71 = [none] := by kernel_rfl
theorem bo71 : tyBool Tryd.prog 71 = false := by kernel_rfl
theorem st71 : tyStr Tryd.prog 71 = false := by kernel_rfl
theorem ze71 : tyZ Tryd.prog 71 = some [.val .nilFunc] := by kernel_rfl
theorem nk72 : tyNil Tryd.prog 72 = some .func := by kernel_rfl
theorem ag72 : tyAgg Tryd.prog 72 = some false := by kernel_rfl
theorem sz72 : tySz Tryd.prog 72 = some 1 := by kernel_rfl
theorem by72 : tyBy Tryd.prog 72 = some 8 := by kernel_rfl
theorem un72 : (Tryd.prog.underlying 72).isSome = true := by kernel_rfl
theorem ni72 : tyNoIf Tryd.prog 72 = true := by kernel_rfl
theorem kt72 : tyKsT Tryd.prog 72 = [none] := by kernel_rfl
theorem bo72 : tyBool Tryd.prog 72 = false := by kernel_rfl
theorem st72 : tyStr Tryd.prog 72 = false := by kernel_rfl
theorem ze72 : tyZ Tryd.prog 72 = some [.val .nilFunc] := by kernel_rfl
theorem nk73 : tyNil Tryd.prog 73 = some .func := by kernel_rfl
theorem ag73 : tyAgg Tryd.prog 73 = some false := by kernel_rfl
theorem sz73 : tySz Tryd.prog 73 = some 1 := by kernel_rfl
theorem by73 : tyBy Tryd.prog 73 = some 8 := by kernel_rfl
theorem un73 : (Tryd.prog.underlying 73).isSome = true := by kernel_rfl
theorem ni73 : tyNoIf Tryd.prog 73 = true := by kernel_rfl
theorem kt73 : tyKsT Tryd.prog 73 = [none] := by kernel_rfl
theorem bo73 : tyBool Tryd.prog 73 = false := by kernel_rfl
theorem st73 : tyStr Tryd.prog 73 = false := by kernel_rfl
theorem ze73 : tyZ Tryd.prog 73 = some [.val .nilFunc] := by kernel_rfl
theorem ag74 : tyAgg Tryd.prog 74 = some false := by kernel_rfl
theorem sz74 : tySz Tryd.prog 74 = some 1 := by kernel_rfl
theorem by74 : tyBy Tryd.prog 74 = some 8 := by kernel_rfl
theorem un74 : (Tryd.prog.underlying 74).isSome = true := by kernel_rfl
theorem ni74 : tyNoIf Tryd.prog 74 = true := by kernel_rfl
theorem zo74 : tyZ1 Tryd.prog 74 = some ((.int .u64 0)) := by kernel_rfl
theorem kt74 : tyKsT Tryd.prog 74 = [none] := by kernel_rfl
theorem in74 : tyInt Tryd.prog 74 = some .u64 := by kernel_rfl
theorem bo74 : tyBool Tryd.prog 74 = false := by kernel_rfl
theorem st74 : tyStr Tryd.prog 74 = false := by kernel_rfl
theorem ze74 : tyZ Tryd.prog 74 = some [.val (.int .u64 0)] := by kernel_rfl
theorem ag75 : tyAgg Tryd.prog 75 = some false := by kernel_rfl
theorem sz75 : tySz Tryd.prog 75 = some 1 := by kernel_rfl
theorem by75 : tyBy Tryd.prog 75 = some 8 := by kernel_rfl
theorem un75 : (Tryd.prog.underlying 75).isSome = true := by kernel_rfl
theorem ni75 : tyNoIf Tryd.prog 75 = true := by kernel_rfl
theorem zo75 : tyZ1 Tryd.prog 75 = some ((.int .u64 0)) := by kernel_rfl
theorem kt75 : tyKsT Tryd.prog 75 = [none] := by kernel_rfl
theorem in75 : tyInt Tryd.prog 75 = some .u64 := by kernel_rfl
theorem bo75 : tyBool Tryd.prog 75 = false := by kernel_rfl
theorem st75 : tyStr Tryd.prog 75 = false := by kernel_rfl
theorem ze75 : tyZ Tryd.prog 75 = some [.val (.int .u64 0)] := by kernel_rfl
theorem nk76 : tyNil Tryd.prog 76 = some .func := by kernel_rfl
theorem ag76 : tyAgg Tryd.prog 76 = some false := by kernel_rfl
theorem sz76 : tySz Tryd.prog 76 = some 1 := by kernel_rfl
theorem by76 : tyBy Tryd.prog 76 = some 8 := by kernel_rfl
theorem un76 : (Tryd.prog.underlying 76).isSome = true := by kernel_rfl
theorem ni76 : tyNoIf Tryd.prog 76 = true := by kernel_rfl
theorem kt76 : tyKsT Tryd.prog 76 = [none] := by kernel_rfl
theorem bo76 : tyBool Tryd.prog 76 = false := by kernel_rfl
theorem st76 : tyStr Tryd.prog 76 = false := by kernel_rfl
theorem ze76 : tyZ Tryd.prog 76 = some [.val .nilFunc] := by kernel_rfl
theorem nk77 : tyNil Tryd.prog 77 = some .func := by kernel_rfl
theorem ag77 : tyAgg Tryd.prog 77 = some false := by kernel_rfl
theorem sz77 : tySz Tryd.prog 77 = some 1 := by kernel_rfl
theorem by77 : tyBy Tryd.prog 77 = some 8 := by kernel_rfl
theorem un77 : (Tryd.prog.underlying 77).isSome = true := by kernel_rfl
theorem ni77 : tyNoIf Tryd.prog 77 = true := by kernel_rfl
theorem kt77 : tyKsT Tryd.prog 77 = [none] := by kernel_rfl
theorem bo77 : tyBool Tryd.prog 77 = false := by kernel_rfl
theorem st77 : tyStr Tryd.prog 77 = false := by kernel_rfl
theorem ze77 : tyZ Tryd.prog 77 = some [.val .nilFunc] := by kernel_rfl
theorem nk78 : tyNil Tryd.prog 78 = some .func := by kernel_rfl
theorem ag78 : tyAgg Tryd.prog 78 = some false := by kernel_rfl
theorem sz78 : tySz Tryd.prog 78 = some 1 := by kernel_rfl
theorem by78 : tyBy Tryd.prog 78 = some 8 := by kernel_rfl
theorem un78 : (Tryd.prog.underlying 78).isSome = true := by kernel_rfl
theorem ni78 : tyNoIf Tryd.prog 78 = true := by kernel_rfl
theorem kt78 : tyKsT Tryd.prog 78 = [none] := by kernel_rfl
theorem bo78 : tyBool Tryd.prog 78 = false := by kernel_rfl
theorem st78 : tyStr Tryd.prog 78 = false := by kernel_rfl
theorem ze78 : tyZ Tryd.prog 78 = some [.val .nilFunc] := by kernel_rfl
theorem nk79 : tyNil Tryd.prog 79 = some .func := by kernel_rfl
theorem ag79 : tyAgg Tryd.prog 79 = some false := by kernel_rfl
theorem sz79 : tySz Tryd.prog 79 = some 1 := by kernel_rfl
theorem by79 : tyBy Tryd.prog 79 = some 8 := by kernel_rfl
theorem un79 : (Tryd.prog.underlying 79).isSome = true := by kernel_rfl
theorem ni79 : tyNoIf Tryd.prog 79 = true := by kernel_rfl
theorem kt79 : tyKsT Tryd.prog 79 = [none] := by kernel_rfl
theorem bo79 : tyBool Tryd.prog 79 = false := by kernel_rfl
theorem st79 : tyStr Tryd.prog 79 = false := by kernel_rfl
theorem ze79 : tyZ Tryd.prog 79 = some [.val .nilFunc] := by kernel_rfl
theorem nk80 : tyNil Tryd.prog 80 = some .iface := by kernel_rfl
theorem ag80 : tyAgg Tryd.prog 80 = some false := by kernel_rfl
theorem sz80 : tySz Tryd.prog 80 = some 1 := by kernel_rfl
theorem by80 : tyBy Tryd.prog 80 = some 16 := by kernel_rfl
theorem un80 : (Tryd.prog.underlying 80).isSome = true := by kernel_rfl
theorem ni80 : tyNoIf Tryd.prog 80 = false := by kernel_rfl
theorem kt80 : tyKsT Tryd.prog 80 = [none] := by kernel_rfl
theorem bo80 : tyBool Tryd.prog 80 = false := by kernel_rfl
theorem st80 : tyStr Tryd.prog 80 = false := by kernel_rfl
theorem ze80 : tyZ Tryd.prog 80 = some [.val .nilIface] := by kernel_rfl
theorem nk81 : tyNil Tryd.prog 81 = some .iface := by kernel_rfl
theorem ag81 : tyAgg Tryd.prog 81 = some false := by kernel_rfl
theorem sz81 : tySz Tryd.prog 81 = some 1 := by kernel_rfl
theorem by81 : tyBy Tryd.prog 81 = some 16 := by kernel_rfl
theorem un81 : (Tryd.prog.underlying 81).isSome = true := by kernel_rfl
theorem ni81 : tyNoIf Tryd.prog 81 = false := by kernel_rfl
theorem kt81 : tyKsT Tryd.prog 81 = [none] := by kernel_rfl
theorem bo81 : tyBool Tryd.prog 81 = false := by kernel_rfl
theorem st81 : tyStr Tryd.prog 81 = false := by kernel_rfl
theorem ze81 : tyZ Tryd.prog 81 = some [.val .nilIface] := by kernel_rfl
theorem nk83 : tyNil Tryd.prog 83 = some .func := by kernel_rfl
theorem ag83 : tyAgg Tryd.prog 83 = some false := by kernel_rfl
theorem sz83 : tySz Tryd.prog 83 = some 1 := by kernel_rfl
theorem by83 : tyBy Tryd.prog 83 = some 8 := by kernel_rfl
theorem un83 : (Tryd.prog.underlying 83).isSome = true := by kernel_rfl
theorem ni83 : tyNoIf Tryd.prog 83 = true := by kernel_rfl
theorem kt83 : tyKsT Tryd.prog 83 = [none] := by kernel_rfl
theorem bo83 : tyBool Tryd.prog 83 = false := by kernel_rfl
theorem st83 : tyStr Tryd.prog 83 = false := by kernel_rfl
theorem ze83 : tyZ Tryd.prog 83 = some [.val .nilFunc] := by kernel_rfl
theorem nk84 : tyNil Tryd.prog 84 = some .func := by kernel_rfl
theorem ag84 : tyAgg Tryd.prog 84 = some false := by kernel_rfl
theorem sz84 : tySz Tryd.prog 84 = some 1 := by kernel_rfl
theorem by84 : tyBy Tryd.prog 84 = some 8 := by kernel_rfl
theorem un84 : (Tryd.prog.underlying 84).isSome = true := by kernel_rfl
theorem ni84 : tyNoIf Tryd.prog 84 = true := by kernel_rfl
theorem kt84 : tyKsT Tryd.prog 84 = [none] := by kernel_rfl
theorem bo84 : tyBool Tryd.prog 84 = false := by kernel_rfl
theorem st84 : tyStr Tryd.prog 84 = false := by kernel_rfl
theorem ze84 : tyZ Tryd.prog 84 = some [.val .nilFunc] := by kernel_rfl
theorem nk85 : tyNil Tryd.prog 85 = some .func := by kernel_rfl
theorem ag85 : tyAgg Tryd.prog 85 = some false := by kernel_rfl
theorem sz85 : tySz Tryd.prog 85 = some 1 := by kernel_rfl
theorem by85 : tyBy Tryd.prog 85 = some 8 := by kernel_rfl
theorem un85 : (Tryd.prog.underlying 85).isSome = true := by kernel_rfl
theorem ni85 : tyNoIf Tryd.prog 85 = true := by kernel_rfl
theorem kt85 : tyKsT Tryd.prog 85 = [none] := by kernel_rfl
theorem bo85 : tyBool Tryd.prog 85 = false := by kernel_rfl
theorem st85 : tyStr Tryd.prog 85 = false := by kernel_rfl
theorem ze85 : tyZ Tryd.prog 85 = some [.val .nilFunc] := by kernel_rfl
theorem nk86 : tyNil Tryd.prog 86 = some .func := by kernel_rfl
theorem ag86 : tyAgg Tryd.prog 86 = some false := by kernel_rfl
theorem sz86 : tySz Tryd.prog 86 = some 1 := by kernel_rfl
theorem by86 : tyBy Tryd.prog 86 = some 8 := by kernel_rfl
theorem un86 : (Tryd.prog.underlying 86).isSome = true := by kernel_rfl
theorem ni86 : tyNoIf Tryd.prog 86 = true := by kernel_rfl
theorem kt86 : tyKsT Tryd.prog 86 = [none] := by kernel_rfl
theorem bo86 : tyBool Tryd.prog 86 = false := by kernel_rfl
theorem st86 : tyStr Tryd.prog 86 = false := by kernel_rfl
theorem ze86 : tyZ Tryd.prog 86 = some [.val .nilFunc] := by kernel_rfl
theorem nk87 : tyNil Tryd.prog 87 = some .func := by kernel_rfl
theorem ag87 : tyAgg Tryd.prog 87 = some false := by kernel_rfl
theorem sz87 : tySz Tryd.prog 87 = some 1 := by kernel_rfl
theorem by87 : tyBy Tryd.prog 87 = some 8 := by kernel_rfl
theorem un87 : (Tryd.prog.underlying 87).isSome = true := by kernel_rfl
theorem ni87 : tyNoIf Tryd.prog 87 = true := by kernel_rfl
theorem kt87 : tyKsT Tryd.prog 87 = [none] := by kernel_rfl
theorem bo87 : tyBool Tryd.prog 87 = false := by kernel_rfl
theorem st87 : tyStr Tryd.prog 87 = false := by kernel_rfl
theorem ze87 : tyZ Tryd.prog 87 = some [.val .nilFunc] := by kernel_rfl
theorem nk88 : tyNil Tryd.prog 88 = some .func := by kernel_rfl
theorem ag88 : tyAgg Tryd.prog 88 = some false := by kernel_rfl
theorem sz88 : tySz Tryd.prog 88 = some 1 := by kernel_rfl
theorem by88 : tyBy Tryd.prog 88 = some 8 := by kernel_rfl
theorem un88 : (Tryd.prog.underlying 88).isSome = true := by kernel_rfl
theorem ni88 : tyNoIf Tryd.prog 88 = true := by kernel_rfl
theorem kt88 : tyKsT Tryd.prog 88 = [none] := by kernel_rfl
theorem bo88 : tyBool Tryd.prog 88 = false := by kernel_rfl
theorem st88 : tyStr Tryd.prog 88 = false := by kernel_rfl
theorem ze88 : tyZ Tryd.prog 88 = some [.val .nilFunc] := by kernel_rfl
theorem nk89 : tyNil Tryd.prog 89 = some .func := by kernel_rfl
theorem ag89 : tyAgg Tryd.prog 89 = some false := by kernel_rfl
theorem sz89 : tySz Tryd.prog 89 = some 1 := by kernel_rfl
theorem by89 : tyBy Tryd.prog 89 = some 8 := by kernel_rfl
theorem un89 : (Tryd.prog.underlying 89).isSome = true := by kernel_rfl
theorem ni89 : tyNoIf Tryd.prog 89 = true := by kernel_rfl
theorem kt89 : tyKsT Tryd.prog 89 = [none] := by kernel_rfl
theorem bo89 : tyBool Tryd.prog 89 = false := by kernel_rfl
theorem st89 : tyStr Tryd.prog 89 = false := by kernel_rfl
theorem ze89 : tyZ Tryd.prog 89 = some [.val .nilFunc] := by kernel_rfl
theorem nk90 : tyNil Tryd.prog 90 = some .func := by kernel_rfl
theorem ag90 : tyAgg Tryd.prog 90 = some false := by kernel_rfl
theorem sz90 : tySz Tryd.prog 90 = some 1 := by kernel_rfl
theorem by90 : tyBy Tryd.prog 90 = some 8 := by kernel_rfl
theorem un90 : (Tryd.prog.underlying 90).isSome = true := by kernel_rfl
theorem ni90 : tyNoIf Tryd.prog 90 = true := by kernel_rfl
theorem kt90 : tyKsT Tryd.prog 90 = [none] := by kernel_rfl
theorem bo90 : tyBool Tryd.prog 90 = false := by kernel_rfl
theorem st90 : tyStr Tryd.prog 90 = false := by kernel_rfl
theorem ze90 : tyZ Tryd.prog 90 = some [.val .nilFunc] := by kernel_rfl
theorem nk92 : tyNil Tryd.prog 92 = some .func := by kernel_rfl
theorem ag92 : tyAgg Tryd.prog 92 = some false := by kernel_rfl
theorem sz92 : tySz Tryd.prog 92 = some 1 := by kernel_rfl
theorem by92 : tyBy Tryd.prog 92 = some 8 := by kernel_rfl
theorem un92 : (Tryd.prog.underlying 92).isSome = true := by kernel_rfl
theorem ni92 : tyNoIf Tryd.prog 92 = true := by kernel_rfl
theorem kt92 : tyKsT Tryd.prog 92 = [none] := by kernel_rfl
theorem bo92 : tyBool Tryd.prog 92 = false := by kernel_rfl
theorem st92 : tyStr Tryd.prog 92 = false := by kernel_rfl
theorem ze92 : tyZ Tryd.prog 92 = some [.val .nilFunc] := by kernel_rfl
theorem nk93 : tyNil Tryd.prog 93 = some .func := by kernel_rfl
theorem ag93 : tyAgg Tryd.prog 93 = some false := by kernel_rfl
theorem sz93 : tySz Tryd.prog 93 = some 1 := by kernel_rfl
theorem by93 : tyBy Tryd.prog 93 = some 8 := by kernel_rfl
theorem un93 : (Tryd.prog.underlying 93).isSome = true := by kernel_rfl
theorem ni93 : tyNoIf Tryd.prog 93 = true := by kernel_rfl
theorem kt93 : tyKsT Tryd.prog 93 = [none] := by kernel_rfl
theorem bo93 : tyBool Tryd.prog 93 = false := by kernel_rfl
theorem st93 : tyStr Tryd.prog 93 = false := by kernel_rfl
theorem ze93 : tyZ Tryd.prog 93 = some [.val .nilFunc] := by kernel_rfl
theorem ag94 : tyAgg Tryd.prog 94 = some true := by kernel_rfl
theorem sz94 : tySz Tryd.prog 94 = some 6 := by kernel_rfl
theorem by94 : tyBy Tryd.prog 94 = some 48 := by kernel_rfl
theorem un94 : (Tryd.prog.underlying 94).isSome = true := by kernel_rfl
theorem ni94 : tyNoIf Tryd.prog 94 = true := by kernel_rfl
theorem kt94 : tyKsT Tryd.prog 94 = [none, none, none, none, none, none] := by kernel_rfl
theorem bo94 : tyBool Tryd.prog 94 = false := by kernel_rfl
theorem st94 : tyStr Tryd.prog 94 = false := by kernel_rfl
theorem ze94 : tyZ Tryd.prog 94 = some [.val (.int .i64 0), .val (.int .i64 0), .val (.int .i64 0), .val (.int .i64 0), .val (.int .i64 0), .val (.bool false)] := by kernel_rfl
theorem fi94 : tyF Tryd.prog 94 = some [(0, 1), (1, 1), (2, 1), (3, 1), (4, 1), (5, 1)] := by kernel_rfl
theorem fa94_0 : tyFA Tryd.prog 94 0 = some 0 := by kernel_rfl
theorem ft94_0 : tyFT Tryd.prog 94 0 = some (0, 3) := by kernel_rfl
theorem fa94_1 : tyFA Tryd.prog 94 1 = some 1 := by kernel_rfl
theorem ft94_1 : tyFT Tryd.prog 94 1 = some (1, 3) := by kernel_rfl
theorem fa94_2 : tyFA Tryd.prog 94 2 = some 2 := by kernel_rfl
theorem ft94_2 : tyFT Tryd.prog 94 2 = some (2, 3) := by kernel_rfl
theorem fa94_3 : tyFA Tryd.prog 94 3 = some 3 := by kernel_rfl
theorem ft94_3 : tyFT Tryd.prog 94 3 = some (3, 3) := by kernel_rfl
theorem fa94_4 : tyFA Tryd.prog 94 4 = some 4 := by kernel_rfl
theorem ft94_4 : tyFT Tryd.prog 94 4 = some (4, 3) := by kernel_rfl
theorem fa94_5 : tyFA Tryd.prog 94 5 = some 5 := by kernel_rfl
theorem ft94_5 : tyFT Tryd.prog 94 5 = some (5, 4) := by kernel_rfl
theorem ag95 : tyAgg Tryd.prog 95 = some true := by kernel_rfl
theorem sz95 : tySz Tryd.prog 95 = some 6 := by kernel_rfl
theorem by95 : tyBy Tryd.prog 95 = some 48 := by kernel_rfl
theorem un95 : (Tryd.prog.underlying 95).isSome = true := by kernel_rfl
theorem ni95 : tyNoIf Tryd.prog 95 = true := by kernel_rfl
theorem kt95 : tyKsT Tryd.prog 95 = [none, none, none, none, none, none] := by kernel_rfl
theorem bo95 : tyBool Tryd.prog 95 = false := by kernel_rfl
theorem st95 : tyStr Tryd.prog 95 = false := by kernel_rfl
theorem ze95 : tyZ Tryd.prog 95 = some [.val (.int .i64 0), .val (.int .i64 0), .val (.int .i64 0), .val (.int .i64 0), .val (.int .i64 0), .val (.bool false)] := by kernel_rfl
theorem eq95 : tyEq Tryd.prog 95 = some [.int .i64, .int .i64, .int .i64, .int .i64, .int .i64, .bool] := by kernel_rfl
theorem fi95 : tyF Tryd.prog 95 = some [(0, 1), (1, 1), (2, 1), (3, 1), (4, 1), (5, 1)] := by kernel_rfl
theorem fa95_0 : tyFA Tryd.prog 95 0 = some 0 := by kernel_rfl
theorem ft95_0 : tyFT Tryd.prog 95 0 = some (0, 3) := by kernel_rfl
theorem fa95_1 : tyFA Tryd.prog 95 1 = some 1 := by kernel_rfl
theorem ft95_1 : tyFT Tryd.prog 95 1 = some (1, 3) := by kernel_rfl
theorem fa95_2 : tyFA Tryd.prog 95 2 = some 2 := by kernel_rfl
theorem ft95_2 : tyFT Tryd.prog 95 2 = some (2, 3) := by kernel_rfl
theorem fa95_3 : tyFA Tryd.prog 95 3 = some 3 := by kernel_rfl
theorem ft95_3 : tyFT Tryd.prog 95 3 = some (3, 3) := by kernel_rfl
theorem fa95_4 : tyFA Tryd.prog 95 4 = some 4 := by kernel_rfl
theorem ft95_4 : tyFT Tryd.prog 95 4 = some (4, 3) := by kernel_rfl
theorem fa95_5 : tyFA Tryd.prog 95 5 = some 5 := by kernel_rfl
theorem ft95_5 : tyFT Tryd.prog 95 5 = some (5, 4) := by kernel_rfl
theorem nk96 : tyNil Tryd.prog 96 = some .slice := by kernel_rfl
theorem ag96 : tyAgg Tryd.prog 96 = some false := by kernel_rfl
theorem sz96 : tySz Tryd.prog 96 = some 1 := by kernel_rfl
theorem by96 : tyBy Tryd.prog 96 = some 24 := by kernel_rfl
theorem un96 : (Tryd.prog.underlying 96).isSome = true := by kernel_rfl
theorem ni96 : tyNoIf Tryd.prog 96 = true := by kernel_rfl
theorem zo96 : tyZ1 Tryd.prog 96 = some ((.slice none 0 0)) := by kernel_rfl
theorem ke96 : tyKsE Tryd.prog 96 = [some 12] := by kernel_rfl
theorem kt96 : tyKsT Tryd.prog 96 = [some 1] := by kernel_rfl
theorem el96 : tyEl Tryd.prog 96 = some 59 := by kernel_rfl
theorem bo96 : tyBool Tryd.prog 96 = false := by kernel_rfl
theorem st96 : tyStr Tryd.prog 96 = false := by kernel_rfl
theorem ze96 : tyZ Tryd.prog 96 = some [.val (.slice none 0 0)] := by kernel_rfl
theorem nk97 : tyNil Tryd.prog 97 = some .func := by kernel_rfl
theorem ag97 : tyAgg Tryd.prog 97 = some false := by kernel_rfl
theorem sz97 : tySz Tryd.prog 97 = some 1 := by kernel_rfl
theorem by97 : tyBy Tryd.prog 97 = some 8 := by kernel_rfl
theorem un97 : (Tryd.prog.underlying 97).isSome = true := by kernel_rfl
theorem ni97 : tyNoIf Tryd.prog 97 = true := by kernel_rfl
theorem kt97 : tyKsT Tryd.prog 97 = [none] := by kernel_rfl
theorem bo97 : tyBool Tryd.prog 97 = false := by kernel_rfl
theorem st97 : tyStr Tryd.prog 97 = false := by kernel_rfl
theorem ze97 : tyZ Tryd.prog 97 = some [.val .nilFunc] := by kernel_rfl
theorem nk98 : tyNil Tryd.prog 98 = some .func := by kernel_rfl
theorem ag98 : tyAgg Tryd.prog 98 = some false := by kernel_rfl
theorem sz98 : tySz Tryd.prog 98 = some 1 := by kernel_rfl
theorem by98 : tyBy Tryd.prog 98 = some 8 := by kernel_rfl
theorem un98 : (Tryd.prog.underlying 98).isSome = true := by kernel_rfl
theorem ni98 : tyNoIf Tryd.prog 98 = true := by kernel_rfl
theorem kt98 : tyKsT Tryd.prog 98 = [none] := by kernel_rfl
theorem bo98 : tyBool Tryd.prog 98 = false := by kernel_rfl
theorem st98 : tyStr Tryd.prog 98 = false := by kernel_rfl
theorem ze98 : tyZ Tryd.prog 98 = some [.val .nilFunc] := by kernel_rfl
theorem ag99 : tyAgg Tryd.prog 99 = some false := by kernel_rfl
theorem sz99 : tySz Tryd.prog 99 = some 1 := by kernel_rfl
theorem by99 : tyBy Tryd.prog 99 = some 4 := by kernel_rfl
theorem un99 : (Tryd.prog.underlying 99).isSome = true := by kernel_rfl
theorem ni99 : tyNoIf Tryd.prog 99 = true := by kernel_rfl
theorem zo99 : tyZ1 Tryd.prog 99 = some ((.int .u32 0)) := by kernel_rfl
theorem kt99 : tyKsT Tryd.prog 99 = [none] := by kernel_rfl
theorem in99 : tyInt Tryd.prog 99 = some .u32 := by kernel_rfl
theorem bo99 : tyBool Tryd.prog 99 = false := by kernel_rfl
theorem st99 : tyStr Tryd.prog 99 = false := by kernel_rfl
theorem ze99 : tyZ Tryd.prog 99 = some [.val (.int .u32 0)] := by kernel_rfl
theorem nk100 : tyNil Tryd.prog 100 = some .func := by kernel_rfl
theorem ag100 : tyAgg Tryd.prog 100 = some false := by kernel_rfl
theorem sz100 : tySz Tryd.prog 100 = some 1 := by kernel_rfl
theorem by100 : tyBy Tryd.prog 100 = some 8 := by kernel_rfl
theorem un100 : (Tryd.prog.underlying 100).isSome = true := by kernel_rfl
theorem ni100 : tyNoIf Tryd.prog 100 = true := by kernel_rfl
theorem kt100 : tyKsT Tryd.prog 100 = [none] := by kernel_rfl
theorem bo100 : tyBool Tryd.prog 100 = false := by kernel_rfl
theorem st100 : tyStr Tryd.prog 100 = false := by kernel_rfl
theorem ze100 : tyZ Tryd.prog 100 = some [.val .nilFunc] := by kernel_rfl
theorem nk101 : tyNil Tryd.prog 101 = some .pointer := by kernel_rfl
theorem ag101 : tyAgg Tryd.prog 101 = some false := by kernel_rfl
theorem sz101 : tySz Tryd.prog 101 = some 1 := by kernel_rfl
theorem by101 : tyBy Tryd.prog 101 = some 8 := by kernel_rfl
theorem un101 : (Tryd.prog.underlying 101).isSome = true := by kernel_rfl
theorem ni101 : tyNoIf Tryd.prog 101 = true := by kernel_rfl
theorem zo101 : tyZ1 Tryd.prog 101 = some ((.pointer none)) := by kernel_rfl
theorem kt101 : tyKsT Tryd.prog 101 = [none] := by kernel_rfl
theorem bo101 : tyBool Tryd.prog 101 = false := by kernel_rfl
theorem st101 : tyStr Tryd.prog 101 = false := by kernel_rfl
theorem ze101 : tyZ Tryd.prog 101 = some [.val (.pointer none)] := by kernel_rfl
theorem ag102 : tyAgg Tryd.prog 102 = some true := by kernel_rfl
theorem sz102 : tySz Tryd.prog 102 = some 2 := by kernel_rfl
theorem by102 : tyBy Tryd.prog 102 = some 32 := by kernel_rfl
theorem un102 : (Tryd.prog.underlying 102).isSome = true := by kernel_rfl
theorem ni102 : tyNoIf Tryd.prog 102 = true := by kernel_rfl
theorem kt102 : tyKsT Tryd.prog 102 = [none, some 1] := by kernel_rfl
theorem bo102 : tyBool Tryd.prog 102 = false := by kernel_rfl
theorem st102 : tyStr Tryd.prog 102 = false := by kernel_rfl
theorem ze102 : tyZ Tryd.prog 102 = some [.val (.pointer none), .val (.slice none 0 0)] := by kernel_rfl
theorem fi102 : tyF Tryd.prog 102 = some [(0, 1), (1, 1)] := by kernel_rfl
theorem fa102_0 : tyFA Tryd.prog 102 0 = some 0 := by kernel_rfl
theorem ft102_0 : tyFT Tryd.prog 102 0 = some (0, 101) := by kernel_rfl
theorem fa102_1 : tyFA Tryd.prog 102 1 = some 1 := by kernel_rfl
theorem ft102_1 : tyFT Tryd.prog 102 1 = some (1, 53) := by kernel_rfl
theorem ag103 : tyAgg Tryd.prog 103 = some true := by kernel_rfl
theorem sz103 : tySz Tryd.prog 103 = some 2 := by kernel_rfl
theorem by103 : tyBy Tryd.prog 103 = some 32 := by kernel_rfl
theorem un103 : (Tryd.prog.underlying 103).isSome = true := by kernel_rfl
theorem ni103 : tyNoIf Tryd.prog 103 = true := by kernel_rfl
theorem kt103 : tyKsT Tryd.prog 103 = [none, some 1] := by kernel_rfl
theorem bo103 : tyBool Tryd.prog 103 = false := by kernel_rfl
theorem st103 : tyStr Tryd.prog 103 = false := by kernel_rfl
theorem ze103 : tyZ Tryd.prog 103 = some [.val (.pointer none), .val (.slice none 0 0)] := by kernel_rfl
theorem fi103 : tyF Tryd.prog 103 = some [(0, 1), (1, 1)] := by kernel_rfl
theorem fa103_0 : tyFA Tryd.prog 103 0 = some 0 := by kernel_rfl
theorem ft103_0 : tyFT Tryd.prog 103 0 = some (0, 101) := by kernel_rfl
theorem fa103_1 : tyFA Tryd.prog 103 1 = some 1 := by kernel_rfl
theorem ft103_1 : tyFT Tryd.prog 103 1 = some (1, 53) := by kernel_rfl
theorem nk104 : tyNil Tryd.prog 104 = some .func := by kernel_rfl
theorem ag104 : tyAgg Tryd.prog 104 = some false := by kernel_rfl
theorem sz104 : tySz Tryd.prog 104 = some 1 := by kernel_rfl
theorem by104 : tyBy Tryd.prog 104 = some 8 := by kernel_rfl
theorem un104 : (Tryd.prog.underlying 104).isSome = true := by kernel_rfl
theorem ni104 : tyNoIf Tryd.prog 104 = true := by kernel_rfl
theorem kt104 : tyKsT Tryd.prog 104 = [none] := by kernel_rfl
theorem bo104 : tyBool Tryd.prog 104 = false := by kernel_rfl
theorem st104 : tyStr Tryd.prog 104 = false := by kernel_rfl
theorem ze104 : tyZ Tryd.prog 104 = some [.val .nilFunc] := by kernel_rfl
theorem nk105 : tyNil Tryd.prog 105 = some .func := by kernel_rfl
theorem ag105 : tyAgg Tryd.prog 105 = some false := by kernel_rfl
theorem sz105 : tySz Tryd.prog 105 = some 1 := by kernel_rfl
theorem by105 : tyBy Tryd.prog 105 = some 8 := by kernel_rfl
theorem un105 : (Tryd.prog.underlying 105).isSome = true := by kernel_rfl
theorem ni105 : tyNoIf Tryd.prog 105 = true := by kernel_rfl
theorem kt105 : tyKsT Tryd.prog 105 = [none] := by kernel_rfl
theorem bo105 : tyBool Tryd.prog 105 = false := by kernel_rfl
theorem st105 : tyStr Tryd.prog 105 = false := by kernel_rfl
theorem ze105 : tyZ Tryd.prog 105 = some [.val .nilFunc] := by kernel_rfl
theorem nk106 : tyNil Tryd.prog 106 = some .func := by kernel_rfl
theorem ag106 : tyAgg Tryd.prog 106 = some false := by kernel_rfl
theorem sz106 : tySz Tryd.prog 106 = some 1 := by kernel_rfl
theorem by106 : tyBy Tryd.prog 106 = some 8 := by kernel_rfl
theorem un106 : (Tryd.prog.underlying 106).isSome = true := by kernel_rfl
theorem ni106 : tyNoIf Tryd.prog 106 = true := by kernel_rfl
theorem kt106 : tyKsT Tryd.prog 106 = [none] := by kernel_rfl
theorem bo106 : tyBool Tryd.prog 106 = false := by kernel_rfl
theorem st106 : tyStr Tryd.prog 106 = false := by kernel_rfl
theorem ze106 : tyZ Tryd.prog 106 = some [.val .nilFunc] := by kernel_rfl
theorem nk107 : tyNil Tryd.prog 107 = some .func := by kernel_rfl
theorem ag107 : tyAgg Tryd.prog 107 = some false := by kernel_rfl
theorem sz107 : tySz Tryd.prog 107 = some 1 := by kernel_rfl
theorem by107 : tyBy Tryd.prog 107 = some 8 := by kernel_rfl
theorem un107 : (Tryd.prog.underlying 107).isSome = true := by kernel_rfl
theorem ni107 : tyNoIf Tryd.prog 107 = true := by kernel_rfl
theorem kt107 : tyKsT Tryd.prog 107 = [none] := by kernel_rfl
theorem bo107 : tyBool Tryd.prog 107 = false := by kernel_rfl
theorem st107 : tyStr Tryd.prog 107 = false := by kernel_rfl
theorem ze107 : tyZ Tryd.prog 107 = some [.val .nilFunc] := by kernel_rfl
theorem nk108 : tyNil Tryd.prog 108 = some .func := by kernel_rfl
theorem ag108 : tyAgg Tryd.prog 108 = some false := by kernel_rfl
theorem sz108 : tySz Tryd.prog 108 = some 1 := by kernel_rfl
theorem by108 : tyBy Tryd.prog 108 = some 8 := by kernel_rfl
theorem un108 : (Tryd.prog.underlying 108).isSome = true := by kernel_rfl
theorem ni108 : tyNoIf Tryd.prog 108 = true := by kernel_rfl
theorem kt108 : tyKsT Tryd.prog 108 = [none] := by kernel_rfl
theorem bo108 : tyBool Tryd.prog 108 = false := by kernel_rfl
theorem st108 : tyStr Tryd.prog 108 = false := by kernel_rfl
theorem ze108 : tyZ Tryd.prog 108 = some [.val .nilFunc] := by kernel_rfl
theorem nk109 : tyNil Tryd.prog 109 = some .func := by kernel_rfl
theorem ag109 : tyAgg Tryd.prog 109 = some false := by kernel_rfl
theorem sz109 : tySz Tryd.prog 109 = some 1 := by kernel_rfl
theorem by109 : tyBy Tryd.prog 109 = some 8 := by kernel_rfl
theorem un109 : (Tryd.prog.underlying 109).isSome = true := by kernel_rfl
theorem ni109 : tyNoIf Tryd.prog 109 = true := by kernel_rfl
theorem kt109 : tyKsT Tryd.prog 109 = [none] := by kernel_rfl
theorem bo109 : tyBool Tryd.prog 109 = false := by kernel_rfl
theorem st109 : tyStr Tryd.prog 109 = false := by kernel_rfl
theorem ze109 : tyZ Tryd.prog 109 = some [.val .nilFunc] := by kernel_rfl
theorem nk110 : tyNil Tryd.prog 110 = some .func := by kernel_rfl
theorem ag110 : tyAgg Tryd.prog 110 = some false := by kernel_rfl
theorem sz110 : tySz Tryd.prog 110 = some 1 := by kernel_rfl
theorem by110 : tyBy Tryd.prog 110 = some 8 := by kernel_rfl
theorem un110 : (Tryd.prog.underlying 110).isSome = true := by kernel_rfl
theorem ni110 : tyNoIf Tryd.prog 110 = true := by kernel_rfl
theorem kt110 : tyKsT Tryd.prog 110 = [none] := by kernel_rfl
theorem bo110 : tyBool Tryd.prog 110 = false := by kernel_rfl
theorem st110 : tyStr Tryd.prog 110 = false := by kernel_rfl
theorem ze110 : tyZ Tryd.prog 110 = some [.val .nilFunc] := by kernel_rfl
theorem nk111 : tyNil Tryd.prog 111 = some .pointer := by kernel_rfl
theorem ag111 : tyAgg Tryd.prog 111 = some false := by kernel_rfl
theorem sz111 : tySz Tryd.prog 111 = some 1 := by kernel_rfl
theorem by111 : tyBy Tryd.prog 111 = some 8 := by kernel_rfl
theorem un111 : (Tryd.prog.underlying 111).isSome = true := by kernel_rfl
theorem ni111 : tyNoIf Tryd.prog 111 = true := by kernel_rfl
theorem zo111 : tyZ1 Tryd.prog 111 = some ((.pointer none)) := by kernel_rfl
theorem kt111 : tyKsT Tryd.prog 111 = [none] := by kernel_rfl
theorem bo111 : tyBool Tryd.prog 111 = false := by kernel_rfl
theorem st111 : tyStr Tryd.prog 111 = false := by kernel_rfl
theorem ze111 : tyZ Tryd.prog 111 = some [.val (.pointer none)] := by kernel_rfl
theorem ag112 : tyAgg Tryd.prog 112 = some true := by kernel_rfl
theorem sz112 : tySz Tryd.prog 112 = some 2 := by kernel_rfl
theorem by112 : tyBy Tryd.prog 112 = some 32 := by kernel_rfl
theorem un112 : (Tryd.prog.underlying 112).isSome = true := by kernel_rfl
theorem ni112 : tyNoIf Tryd.prog 112 = true := by kernel_rfl
theorem kt112 : tyKsT Tryd.prog 112 = [some 1, none] := by kernel_rfl
theorem bo112 : tyBool Tryd.prog 112 = false := by kernel_rfl
theorem st112 : tyStr Tryd.prog 112 = false := by kernel_rfl
theorem ze112 : tyZ Tryd.prog 112 = some [.val (.slice none 0 0), .val (.bool false)] := by kernel_rfl
theorem fi112 : tyF Tryd.prog 112 = some [(0, 1), (1, 1)] := by kernel_rfl
theorem fa112_0 : tyFA Tryd.prog 112 0 = some 0 := by kernel_rfl
theorem ft112_0 : tyFT Tryd.prog 112 0 = some (0, 32) := by kernel_rfl
theorem fa112_1 : tyFA Tryd.prog 112 1 = some 1 := by kernel_rfl
theorem ft112_1 : tyFT Tryd.prog 112 1 = some (1, 4) := by kernel_rfl
theorem ag113 : tyAgg Tryd.prog 113 = some true := by kernel_rfl
theorem sz113 : tySz Tryd.prog 113 = some 2 := by kernel_rfl
theorem by113 : tyBy Tryd.prog 113 = some 32 := by kernel_rfl
theorem un113 : (Tryd.prog.underlying 113).isSome = true := by kernel_rfl
theorem ni113 : tyNoIf Tryd.prog 113 = true := by kernel_rfl
theorem kt113 : tyKsT Tryd.prog 113 = [some 1, none] := by kernel_rfl
theorem bo113 : tyBool Tryd.prog 113 = false := by kernel_rfl
theorem st113 : tyStr Tryd.prog 113 = false := by kernel_rfl
theorem ze113 : tyZ Tryd.prog 113 = some [.val (.slice none 0 0), .val (.bool false)] := by kernel_rfl
theorem fi113 : tyF Tryd.prog 113 = some [(0, 1), (1, 1)] := by kernel_rfl
theorem fa113_0 : tyFA Tryd.prog 113 0 = some 0 := by kernel_rfl
theorem ft113_0 : tyFT Tryd.prog 113 0 = some (0, 32) := by kernel_rfl
theorem fa113_1 : tyFA Tryd.prog 113 1 = some 1 := by kernel_rfl
theorem ft113_1 : tyFT Tryd.prog 113 1 = some (1, 4) := by kernel_rfl
theorem nk114 : tyNil Tryd.prog 114 = some .func := by kernel_rfl
theorem ag114 : tyAgg Tryd.prog 114 = some false := by kernel_rfl
theorem sz114 : tySz Tryd.prog 114 = some 1 := by kernel_rfl
theorem by114 : tyBy Tryd.prog 114 = some 8 := by kernel_rfl
theorem un114 : (Tryd.prog.underlying 114).isSome = true := by kernel_rfl
theorem ni114 : tyNoIf Tryd.prog 114 = true := by kernel_rfl
theorem kt114 : tyKsT Tryd.prog 114 = [none] := by kernel_rfl
theorem bo114 : tyBool Tryd.prog 114 = false := by kernel_rfl
theorem st114 : tyStr Tryd.prog 114 = false := by kernel_rfl
theorem ze114 : tyZ Tryd.prog 114 = some [.val .nilFunc] := by kernel_rfl
theorem nk117 : tyNil Tryd.prog 117 = some .func := by kernel_rfl
theorem ag117 : tyAgg Tryd.prog 117 = some false := by kernel_rfl
theorem sz117 : tySz Tryd.prog 117 = some 1 := by kernel_rfl
theorem by117 : tyBy Tryd.prog 117 = some 8 := by kernel_rfl
theorem un117 : (Tryd.prog.underlying 117).isSome = true := by kernel_rfl
theorem ni117 : tyNoIf Tryd.prog 117 = true := by kernel_rfl
theorem kt117 : tyKsT Tryd.prog 117 = [none] := by kernel_rfl
theorem bo117 : tyBool Tryd.prog 117 = false := by kernel_rfl
theorem st117 : tyStr Tryd.prog 117 = false := by kernel_rfl
theorem ze117 : tyZ Tryd.prog 117 = some [.val .nilFunc] := by kernel_rfl
theorem nk118 : tyNil Tryd.prog 118 = some .pointer := by kernel_rfl
theorem ag118 : tyAgg Tryd.prog 118 = some false := by kernel_rfl
theorem sz118 : tySz Tryd.prog 118 = some 1 := by kernel_rfl
theorem by118 : tyBy Tryd.prog 118 = some 8 := by kernel_rfl
theorem un118 : (Tryd.prog.underlying 118).isSome = true := by kernel_rfl
theorem ni118 : tyNoIf Tryd.prog 118 = true := by kernel_rfl
theorem zo118 : tyZ1 Tryd.prog 118 = some ((.pointer none)) := by kernel_rfl
theorem kt118 : tyKsT Tryd.prog 118 = [none] := by kernel_rfl
theorem bo118 : tyBool Tryd.prog 118 = false := by kernel_rfl
theorem st118 : tyStr Tryd.prog 118 = false := by kernel_rfl
theorem ze118 : tyZ Tryd.prog 118 = some [.val (.pointer none)] := by kernel_rfl
theorem nk119 : tyNil Tryd.prog 119 = some .func := by kernel_rfl
theorem ag119 : tyAgg Tryd.prog 119 = some false := by kernel_rfl
theorem sz119 : tySz Tryd.prog 119 = some 1 := by kernel_rfl
theorem by119 : tyBy Tryd.prog 119 = some 8 := by kernel_rfl
theorem un119 : (Tryd.prog.underlying 119).isSome = true := by kernel_rfl
theorem ni119 : tyNoIf Tryd.prog 119 = true := by kernel_rfl
theorem kt119 : tyKsT Tryd.prog 119 = [none] := by kernel_rfl
theorem bo119 : tyBool Tryd.prog 119 = false := by kernel_rfl
theorem st119 : tyStr Tryd.prog 119 = false := by kernel_rfl
theorem ze119 : tyZ Tryd.prog 119 = some [.val .nilFunc] := by kernel_rfl
theorem ag120 : tyAgg Tryd.prog 120 = some false := by kernel_rfl
theorem sz120 : tySz Tryd.prog 120 = some 1 := by kernel_rfl
theorem by120 : tyBy Tryd.prog 120 = some 8 := by kernel_rfl
theorem un120 : (Tryd.prog.underlying 120).isSome = true := by kernel_rfl
theorem ni120 : tyNoIf Tryd.prog 120 = true := by kernel_rfl
theorem zo120 : tyZ1 Tryd.prog 120 = some ((.int .i64 0)) := by kernel_rfl
theorem kt120 : tyKsT Tryd.prog 120 = [none] := by kernel_rfl
theorem in120 : tyInt Tryd.prog 120 = some .i64 := by kernel_rfl
theorem bo120 : tyBool Tryd.prog 120 = false := by kernel_rfl
theorem st120 : tyStr Tryd.prog 120 = false := by kernel_rfl
theorem ze120 : tyZ Tryd.prog 120 = some [.val (.int .i64 0)] := by kernel_rfl
theorem nk122 : tyNil Tryd.prog 122 = some .func := by kernel_rfl
theorem ag122 : tyAgg Tryd.prog 122 = some false := by kernel_rfl
theorem sz122 : tySz Tryd.prog 122 = some 1 := by kernel_rfl
theorem by122 : tyBy Tryd.prog 122 = some 8 := by kernel_rfl
theorem un122 : (Tryd.prog.underlying 122).isSome = true := by kernel_rfl
theorem ni122 : tyNoIf Tryd.prog 122 = true := by kernel_rfl
theorem kt122 : tyKsT Tryd.prog 122 = [none] := by kernel_rfl
theorem bo122 : tyBool Tryd.prog 122 = false := by kernel_rfl
theorem st122 : tyStr Tryd.prog 122 = false := by kernel_rfl
theorem ze122 : tyZ Tryd.prog 122 = some [.val .nilFunc] := by kernel_rfl
theorem nk123 : tyNil Tryd.prog 123 = some .pointer := by kernel_rfl
theorem ag123 : tyAgg Tryd.prog 123 = some false := by kernel_rfl
theorem sz123 : tySz Tryd.prog 123 = some 1 := by kernel_rfl
theorem by123 : tyBy Tryd.prog 123 = some 8 := by kernel_rfl
theorem un123 : (Tryd.prog.underlying 123).isSome = true := by kernel_rfl
theorem ni123 : tyNoIf Tryd.prog 123 = true := by kernel_rfl
theorem zo123 : tyZ1 Tryd.prog 123 = some ((.pointer none)) := by kernel_rfl
theorem kt123 : tyKsT Tryd.prog 123 = [none] := by kernel_rfl
theorem bo123 : tyBool Tryd.prog 123 = false := by kernel_rfl
theorem st123 : tyStr Tryd.prog 123 = false := by kernel_rfl
theorem ze123 : tyZ Tryd.prog 123 = some [.val (.pointer none)] := by kernel_rfl
theorem nk124 : tyNil Tryd.prog 124 = some .func := by kernel_rfl
theorem ag124 : tyAgg Tryd.prog 124 = some false := by kernel_rfl
theorem sz124 : tySz Tryd.prog 124 = some 1 := by kernel_rfl
theorem by124 : tyBy Tryd.prog 124 = some 8 := by kernel_rfl
theorem un124 : (Tryd.prog.underlying 124).isSome = true := by kernel_rfl
theorem ni124 : tyNoIf Tryd.prog 124 = true := by kernel_rfl
theorem kt124 : tyKsT Tryd.prog 124 = [none] := by kernel_rfl
theorem bo124 : tyBool Tryd.prog 124 = false := by kernel_rfl
theorem st124 : tyStr Tryd.prog 124 = false := by kernel_rfl
theorem ze124 : tyZ Tryd.prog 124 = some [.val .nilFunc] := by kernel_rfl
theorem nk125 : tyNil Tryd.prog 125 = some .func := by kernel_rfl
theorem ag125 : tyAgg Tryd.prog 125 = some false := by kernel_rfl
theorem sz125 : tySz Tryd.prog 125 = some 1 := by kernel_rfl
theorem by125 : tyBy Tryd.prog 125 = some 8 := by kernel_rfl
theorem un125 : (Tryd.prog.underlying 125).isSome = true := by kernel_rfl
theorem ni125 : tyNoIf Tryd.prog 125 = true := by kernel_rfl
theorem kt125 : tyKsT Tryd.prog 125 = [none] := by kernel_rfl
theorem bo125 : tyBool Tryd.prog 125 = false := by kernel_rfl
theorem st125 : tyStr Tryd.prog 125 = false := by kernel_rfl
theorem ze125 : tyZ Tryd.prog 125 = some [.val .nilFunc] := by kernel_rfl
theorem nk126 : tyNil Tryd.prog 126 = some .func := by kernel_rfl
theorem ag126 : tyAgg Tryd.prog 126 = some false := by kernel_rfl
theorem sz126 : tySz Tryd.prog 126 = some 1 := by kernel_rfl
theorem by126 : tyBy Tryd.prog 126 = some 8 := by kernel_rfl
theorem un126 : (Tryd.prog.underlying 126).isSome = true := by kernel_rfl
theorem ni126 : tyNoIf Tryd.prog 126 = true := by kernel_rfl
theorem kt126 : tyKsT Tryd.prog 126 = [none] := by kernel_rfl
theorem bo126 : tyBool Tryd.prog 126 = false := by kernel_rfl
theorem st126 : tyStr Tryd.prog 126 = false := by kernel_rfl
theorem ze126 : tyZ Tryd.prog 126 = some [.val .nilFunc] := by kernel_rfl
theorem nk128 : tyNil Tryd.prog 128 = some .func := by kernel_rfl
theorem ag128 : tyAgg Tryd.prog 128 = some false := by kernel_rfl
theorem sz128 : tySz Tryd.prog 128 = some 1 := by kernel_rfl
theorem by128 : tyBy Tryd.prog 128 = some 8 := by kernel_rfl
theorem un128 : (Tryd.prog.underlying 128).isSome = true := by kernel_rfl
theorem ni128 : tyNoIf Tryd.prog 128 = true := by kernel_rfl
theorem kt128 : tyKsT Tryd.prog 128 = [none] := by kernel_rfl
theorem bo128 : tyBool Tryd.prog 128 = false := by kernel_rfl
theorem st128 : tyStr Tryd.prog 128 = false := by kernel_rfl
theorem ze128 : tyZ Tryd.prog 128 = some [.val .nilFunc] := by kernel_rfl
theorem nk129 : tyNil Tryd.prog 129 = some .func := by kernel_rfl
theorem ag129 : tyAgg Tryd.prog 129 = some false := by kernel_rfl
theorem sz129 : tySz Tryd.prog 129 = some 1 := by kernel_rfl
theorem by129 : tyBy Tryd.prog 129 = some 8 := by kernel_rfl
theorem un129 : (Tryd.prog.underlying 129).isSome = true := by kernel_rfl
theorem ni129 : tyNoIf Tryd.prog 129 = true := by kernel_rfl
theorem kt129 : tyKsT Tryd.prog 129 = [none] := by kernel_rfl
theorem bo129 : tyBool Tryd.prog 129 = false := by kernel_rfl
theorem st129 : tyStr Tryd.prog 129 = false := by kernel_rfl
theorem ze129 : tyZ Tryd.prog 129 = some [.val .nilFunc] := by kernel_rfl
theorem nk131 : tyNil Tryd.prog 131 = some .func := by kernel_rfl
theorem ag131 : tyAgg Tryd.prog 131 = some false := by kernel_rfl
theorem sz131 : tySz Tryd.prog 131 = some 1 := by kernel_rfl
theorem by131 : tyBy Tryd.prog 131 = some 8 := by kernel_rfl
theorem un131 : (Tryd.prog.underlying 131).isSome = true := by kernel_rfl
theorem ni131 : tyNoIf Tryd.prog 131 = true := by kernel_rfl
theorem kt131 : tyKsT Tryd.prog 131 = [none] := by kernel_rfl
theorem bo131 : tyBool Tryd.prog 131 = false := by kernel_rfl
theorem st131 : tyStr Tryd.prog 131 = false := by kernel_rfl
theorem ze131 : tyZ Tryd.prog 131 = some [.val .nilFunc] := by kernel_rfl
theorem nk133 : tyNil Tryd.prog 133 = some .func := by kernel_rfl
theorem ag133 : tyAgg Tryd.prog 133 = some false := by kernel_rfl
theorem sz133 : tySz Tryd.prog 133 = some 1 := by kernel_rfl
theorem by133 : tyBy Tryd.prog 133 = some 8 := by kernel_rfl
theorem un133 : (Tryd.prog.underlying 133).isSome = true := by kernel_rfl
theorem ni133 : tyNoIf Tryd.prog 133 = true := by kernel_rfl
theorem kt133 : tyKsT Tryd.prog 133 = [none] := by kernel_rfl
theorem bo133 : tyBool Tryd.prog 133 = false := by kernel_rfl
theorem st133 : tyStr Tryd.prog 133 = false := by kernel_rfl
theorem ze133 : tyZ Tryd.prog 133 = some [.val .nilFunc] := by kernel_rfl
theorem ag134 : tyAgg Tryd.prog 134 = some false := by kernel_rfl
theorem sz134 : tySz Tryd.prog 134 = some 1 := by kernel_rfl
theorem by134 : tyBy Tryd.prog 134 = some 8 := by kernel_rfl
theorem un134 : (Tryd.prog.underlying 134).isSome = true := by kernel_rfl
theorem ni134 : tyNoIf Tryd.prog 134 = true := by kernel_rfl
theorem kt134 : tyKsT Tryd.prog 134 = [none] := by kernel_rfl
theorem bo134 : tyBool Tryd.prog 134 = false := by kernel_rfl
theorem st134 : tyStr Tryd.prog 134 = false := by kernel_rfl
theorem ze134 : tyZ Tryd.prog 134 = some [.val (.pointer none)] := by kernel_rfl
theorem nk135 : tyNil Tryd.prog 135 = some .func := by kernel_rfl
theorem ag135 : tyAgg Tryd.prog 135 = some false := by kernel_rfl
theorem sz135 : tySz Tryd.prog 135 = some 1 := by kernel_rfl
theorem by135 : tyBy Tryd.prog 135 = some 8 := by kernel_rfl
theorem un135 : (Tryd.prog.underlying 135).isSome = true := by kernel_rfl
theorem ni135 : tyNoIf Tryd.prog 135 = true := by kernel_rfl
theorem kt135 : tyKsT Tryd.prog 135 = [none] := by kernel_rfl
theorem bo135 : tyBool Tryd.prog 135 = false := by kernel_rfl
theorem st135 : tyStr Tryd.prog 135 = false := by kernel_rfl
theorem ze135 : tyZ Tryd.prog 135 = some [.val .nilFunc] := by kernel_rfl
theorem nk136 : tyNil Tryd.prog 136 = some .func := by kernel_rfl
theorem ag136 : tyAgg Tryd.prog 136 = some false := by kernel_rfl
theorem sz136 : tySz Tryd.prog 136 = some 1 := by kernel_rfl
theorem by136 : tyBy Tryd.prog 136 = some 8 := by kernel_rfl
theorem un136 : (Tryd.prog.underlying 136).isSome = true := by kernel_rfl
theorem ni136 : tyNoIf Tryd.prog 136 = true := by kernel_rfl
theorem kt136 : tyKsT Tryd.prog 136 = [none] := by kernel_rfl
theorem bo136 : tyBool Tryd.prog 136 = false := by kernel_rfl
theorem st136 : tyStr Tryd.prog 136 = false := by kernel_rfl
theorem ze136 : tyZ Tryd.prog 136 = some [.val .nilFunc] := by kernel_rfl
theorem nk138 : tyNil Tryd.prog 138 = some .func := by kernel_rfl
theorem ag138 : tyAgg Tryd.prog 138 = some false := by kernel_rfl
theorem sz138 : tySz Tryd.prog 138 = some 1 := by kernel_rfl
theorem by138 : tyBy Tryd.prog 138 = some 8 := by kernel_rfl
theorem un138 : (Tryd.prog.underlying 138).isSome = true := by kernel_rfl
theorem ni138 : tyNoIf Tryd.prog 138 = true := by kernel_rfl
theorem kt138 : tyKsT Tryd.prog 138 = [none] := by kernel_rfl
theorem bo138 : tyBool Tryd.prog 138 = false := by kernel_rfl
theorem st138 : tyStr Tryd.prog 138 = false := by kernel_rfl
theorem ze138 : tyZ Tryd.prog 138 = some [.val .nilFunc] := by kernel_rfl
theorem nk140 : tyNil Tryd.prog 140 = some .func := by kernel_rfl
theorem ag140 : tyAgg Tryd.prog 140 = some false := by kernel_rfl
theorem sz140 : tySz Tryd.prog 140 = some 1 := by kernel_rfl
theorem by140 : tyBy Tryd.prog 140 = some 8 := by kernel_rfl
theorem un140 : (Tryd.prog.underlying 140).isSome = true := by kernel_rfl
theorem ni140 : tyNoIf Tryd.prog 140 = true := by kernel_rfl
theorem kt140 : tyKsT Tryd.prog 140 = [none] := by kernel_rfl
theorem bo140 : tyBool Tryd.prog 140 = false := by kernel_rfl
theorem st140 : tyStr Tryd.prog 140 = false := by kernel_rfl
theorem ze140 : tyZ Tryd.prog 140 = some [.val .nilFunc] := by kernel_rfl
theorem nk141 : tyNil Tryd.prog 141 = some .func := by kernel_rfl
theorem ag141 : tyAgg Tryd.prog 141 = some false := by kernel_rfl
theorem sz141 : tySz Tryd.prog 141 = some 1 := by kernel_rfl
theorem by141 : tyBy Tryd.prog 141 = some 8 := by kernel_rfl
theorem un141 : (Tryd.prog.underlying 141).isSome = true := by kernel_rfl
theorem ni141 : tyNoIf Tryd.prog 141 = true := by kernel_rfl
theorem kt141 : tyKsT Tryd.prog 141 = [none] := by kernel_rfl
theorem bo141 : tyBool Tryd.prog 141 = false := by kernel_rfl
theorem st141 : tyStr Tryd.prog 141 = false := by kernel_rfl
theorem ze141 : tyZ Tryd.prog 141 = some [.val .nilFunc] := by kernel_rfl
theorem ag142 : tyAgg Tryd.prog 142 = some true := by kernel_rfl
theorem sz142 : tySz Tryd.prog 142 = some 3 := by kernel_rfl
theorem by142 : tyBy Tryd.prog 142 = some 48 := by kernel_rfl
theorem un142 : (Tryd.prog.underlying 142).isSome = true := by kernel_rfl
theorem ni142 : tyNoIf Tryd.prog 142 = true := by kernel_rfl
theorem kt142 : tyKsT Tryd.prog 142 = [none, none, none] := by kernel_rfl
theorem bo142 : tyBool Tryd.prog 142 = false := by kernel_rfl
theorem st142 : tyStr Tryd.prog 142 = false := by kernel_rfl
theorem ze142 : tyZ Tryd.prog 142 = some [.val (.string ⟨#[]⟩), .val (.string ⟨#[]⟩), .val .nilIface] := by kernel_rfl
theorem fi142 : tyF Tryd.prog 142 = some [(0, 1), (1, 1), (2, 1)] := by kernel_rfl
theorem fa142_0 : tyFA Tryd.prog 142 0 = some 0 := by kernel_rfl
theorem ft142_0 : tyFT Tryd.prog 142 0 = some (0, 9) := by kernel_rfl
theorem fa142_1 : tyFA Tryd.prog 142 1 = some 1 := by kernel_rfl
theorem ft142_1 : tyFT Tryd.prog 142 1 = some (1, 9) := by kernel_rfl
theorem fa142_2 : tyFA Tryd.prog 142 2 = some 2 := by kernel_rfl
theorem ft142_2 : tyFT Tryd.prog 142 2 = some (2, 81) := by kernel_rfl
theorem ag143 : tyAgg Tryd.prog 143 = some true := by kernel_rfl
theorem sz143 : tySz Tryd.prog 143 = some 3 := by kernel_rfl
theorem by143 : tyBy Tryd.prog 143 = some 48 := by kernel_rfl
theorem un143 : (Tryd.prog.underlying 143).isSome = true := by kernel_rfl
theorem ni143 : tyNoIf Tryd.prog 143 = true := by kernel_rfl
theorem kt143 : tyKsT Tryd.prog 143 = [none, none, none] := by kernel_rfl
theorem bo143 : tyBool Tryd.prog 143 = false := by kernel_rfl
theorem st143 : tyStr Tryd.prog 143 = false := by kernel_rfl
theorem ze143 : tyZ Tryd.prog 143 = some [.val (.string ⟨#[]⟩), .val (.string ⟨#[]⟩), .val .nilIface] := by kernel_rfl
theorem fi143 : tyF Tryd.prog 143 = some [(0, 1), (1, 1), (2, 1)] := by kernel_rfl
theorem fa143_0 : tyFA Tryd.prog 143 0 = some 0 := by kernel_rfl
theorem ft143_0 : tyFT Tryd.prog 143 0 = some (0, 9) := by kernel_rfl
theorem fa143_1 : tyFA Tryd.prog 143 1 = some 1 := by kernel_rfl
theorem ft143_1 : tyFT Tryd.prog 143 1 = some (1, 9) := by kernel_rfl
theorem fa143_2 : tyFA Tryd.prog 143 2 = some 2 := by kernel_rfl
theorem ft143_2 : tyFT Tryd.prog 143 2 = some (2, 81) := by kernel_rfl
theorem nk144 : tyNil Tryd.prog 144 = some .func := by kernel_rfl
theorem ag144 : tyAgg Tryd.prog 144 = some false := by kernel_rfl
theorem sz144 : tySz Tryd.prog 144 = some 1 := by kernel_rfl
theorem by144 : tyBy Tryd.prog 144 = some 8 := by kernel_rfl
theorem un144 : (Tryd.prog.underlying 144).isSome = true := by kernel_rfl
theorem ni144 : tyNoIf Tryd.prog 144 = true := by kernel_rfl
theorem kt144 : tyKsT Tryd.prog 144 = [none] := by kernel_rfl
theorem bo144 : tyBool Tryd.prog 144 = false := by kernel_rfl
theorem st144 : tyStr Tryd.prog 144 = false := by kernel_rfl
theorem ze144 : tyZ Tryd.prog 144 = some [.val .nilFunc] := by kernel_rfl
theorem nk145 : tyNil Tryd.prog 145 = some .func := by kernel_rfl
theorem ag145 : tyAgg Tryd.prog 145 = some false := by kernel_rfl
theorem sz145 : tySz Tryd.prog 145 = some 1 := by kernel_rfl
theorem by145 : tyBy Tryd.prog 145 = some 8 := by kernel_rfl
theorem un145 : (Tryd.prog.underlying 145).isSome = true := by kernel_rfl
theorem ni145 : tyNoIf Tryd.prog 145 = true := by kernel_rfl
theorem kt145 : tyKsT Tryd.prog 145 = [none] := by kernel_rfl
theorem bo145 : tyBool Tryd.prog 145 = false := by kernel_rfl
theorem st145 : tyStr Tryd.prog 145 = false := by kernel_rfl
theorem ze145 : tyZ Tryd.prog 145 = some [.val .nilFunc] := by kernel_rfl
theorem nk148 : tyNil Tryd.prog 148 = some .func := by kernel_rfl
theorem ag148 : tyAgg Tryd.prog 148 = some false := by kernel_rfl
theorem sz148 : tySz Tryd.prog 148 = some 1 := by kernel_rfl
theorem by148 : tyBy Tryd.prog 148 = some 8 := by kernel_rfl
theorem un148 : (Tryd.prog.underlying 148).isSome = true := by kernel_rfl
theorem ni148 : tyNoIf Tryd.prog 148 = true := by kernel_rfl
theorem kt148 : tyKsT Tryd.prog 148 = [none] := by kernel_rfl
theorem bo148 : tyBool Tryd.prog 148 = false := by kernel_rfl
theorem st148 : tyStr Tryd.prog 148 = false := by kernel_rfl
theorem ze148 : tyZ Tryd.prog 148 = some [.val .nilFunc] := by kernel_rfl
theorem nk149 : tyNil Tryd.prog 149 = some .pointer := by kernel_rfl
theorem ag149 : tyAgg Tryd.prog 149 = some false := by kernel_rfl
theorem sz149 : tySz Tryd.prog 149 = some 1 := by kernel_rfl
theorem by149 : tyBy Tryd.prog 149 = some 8 := by kernel_rfl
theorem un149 : (Tryd.prog.underlying 149).isSome = true := by kernel_rfl
theorem ni149 : tyNoIf Tryd.prog 149 = true := by kernel_rfl
theorem zo149 : tyZ1 Tryd.prog 149 = some ((.pointer none)) := by kernel_rfl
theorem kt149 : tyKsT Tryd.prog 149 = [none] := by kernel_rfl
theorem bo149 : tyBool Tryd.prog 149 = false := by kernel_rfl
theorem st149 : tyStr Tryd.prog 149 = false := by kernel_rfl
theorem ze149 : tyZ Tryd.prog 149 = some [.val (.pointer none)] := by kernel_rfl
theorem ag150 : tyAgg Tryd.prog 150 = some true := by kernel_rfl
theorem sz150 : tySz Tryd.prog 150 = some 1 := by kernel_rfl
theorem by150 : tyBy Tryd.prog 150 = some 16 := by kernel_rfl
theorem un150 : (Tryd.prog.underlying 150).isSome = true := by kernel_rfl
theorem ni150 : tyNoIf Tryd.prog 150 = true := by kernel_rfl
theorem kt150 : tyKsT Tryd.prog 150 = [none] := by kernel_rfl
theorem bo150 : tyBool Tryd.prog 150 = false := by kernel_rfl
theorem st150 : tyStr Tryd.prog 150 = false := by kernel_rfl
theorem ze150 : tyZ Tryd.prog 150 = some [.val (.string ⟨#[]⟩)] := by kernel_rfl
theorem fi150 : tyF Tryd.prog 150 = some [(0, 1)] := by kernel_rfl
theorem fa150_0 : tyFA Tryd.prog 150 0 = some 0 := by kernel_rfl
theorem ft150_0 : tyFT Tryd.prog 150 0 = some (0, 9) := by kernel_rfl
theorem ag151 : tyAgg Tryd.prog 151 = some true := by kernel_rfl
theorem sz151 : tySz Tryd.prog 151 = some 1 := by kernel_rfl
theorem by151 : tyBy Tryd.prog 151 = some 16 := by kernel_rfl
theorem un151 : (Tryd.prog.underlying 151).isSome = true := by kernel_rfl
theorem ni151 : tyNoIf Tryd.prog 151 = true := by kernel_rfl
theorem kt151 : tyKsT Tryd.prog 151 = [none] := by kernel_rfl
theorem bo151 : tyBool Tryd.prog 151 = false := by kernel_rfl
theorem st151 : tyStr Tryd.prog 151 = false := by kernel_rfl
theorem ze151 : tyZ Tryd.prog 151 = some [.val (.string ⟨#[]⟩)] := by kernel_rfl
theorem fi151 : tyF Tryd.prog 151 = some [(0, 1)] := by kernel_rfl
theorem fa151_0 : tyFA Tryd.prog 151 0 = some 0 := by kernel_rfl
theorem ft151_0 : tyFT Tryd.prog 151 0 = some (0, 9) := by kernel_rfl
theorem ag153 : tyAgg Tryd.prog 153 = some true := by kernel_rfl
theorem sz153 : tySz Tryd.prog 153 = some 2 := by kernel_rfl
theorem by153 : tyBy Tryd.prog 153 = some 2 := by kernel_rfl
theorem un153 : (Tryd.prog.underlying 153).isSome = true := by kernel_rfl
theorem ni153 : tyNoIf Tryd.prog 153 = true := by kernel_rfl
theorem kt153 : tyKsT Tryd.prog 153 = [none, none] := by kernel_rfl
theorem bo153 : tyBool Tryd.prog 153 = false := by kernel_rfl
theorem st153 : tyStr Tryd.prog 153 = false := by kernel_rfl
theorem ze153 : tyZ Tryd.prog 153 = some [.val (.int .u8 0), .val (.int .u8 0)] := by kernel_rfl
theorem fi153 : tyF Tryd.prog 153 = some [(0, 1), (1, 1)] := by kernel_rfl
theorem fa153_0 : tyFA Tryd.prog 153 0 = some 0 := by kernel_rfl
theorem ft153_0 : tyFT Tryd.prog 153 0 = some (0, 5) := by kernel_rfl
theorem fa153_1 : tyFA Tryd.prog 153 1 = some 1 := by kernel_rfl
theorem ft153_1 : tyFT Tryd.prog 153 1 = some (1, 5) := by kernel_rfl
theorem ag154 : tyAgg Tryd.prog 154 = some true := by kernel_rfl
theorem sz154 : tySz Tryd.prog 154 = some 2 := by kernel_rfl
theorem by154 : tyBy Tryd.prog 154 = some 2 := by kernel_rfl
theorem un154 : (Tryd.prog.underlying 154).isSome = true := by kernel_rfl
theorem ni154 : tyNoIf Tryd.prog 154 = true := by kernel_rfl
theorem kt154 : tyKsT Tryd.prog 154 = [none, none] := by kernel_rfl
theorem bo154 : tyBool Tryd.prog 154 = false := by kernel_rfl
theorem st154 : tyStr Tryd.prog 154 = false := by kernel_rfl
theorem ze154 : tyZ Tryd.prog 154 = some [.val (.int .u8 0), .val (.int .u8 0)] := by kernel_rfl
theorem fi154 : tyF Tryd.prog 154 = some [(0, 1), (1, 1)] := by kernel_rfl
theorem fa154_0 : tyFA Tryd.prog 154 0 = some 0 := by kernel_rfl
theorem ft154_0 : tyFT Tryd.prog 154 0 = some (0, 5) := by kernel_rfl
theorem fa154_1 : tyFA Tryd.prog 154 1 = some 1 := by kernel_rfl
theorem ft154_1 : tyFT Tryd.prog 154 1 = some (1, 5) := by kernel_rfl
theorem ag156 : tyAgg Tryd.prog 156 = some true := by kernel_rfl
theorem sz156 : tySz Tryd.prog 156 = some 4 := by kernel_rfl
theorem by156 : tyBy Tryd.prog 156 = some 40 := by kernel_rfl
theorem un156 : (Tryd.prog.underlying 156).isSome = true := by kernel_rfl
theorem ni156 : tyNoIf Tryd.prog 156 = true := by kernel_rfl
theorem kt156 : tyKsT Tryd.prog 156 = [none, none, none, none] := by kernel_rfl
theorem bo156 : tyBool Tryd.prog 156 = false := by kernel_rfl
theorem st156 : tyStr Tryd.prog 156 = false := by kernel_rfl
theorem ze156 : tyZ Tryd.prog 156 = some [.val (.pointer none), .val (.pointer none), .val (.pointer none), .val (.string ⟨#[]⟩)] := by kernel_rfl
theorem fi156 : tyF Tryd.prog 156 = some [(0, 1), (1, 1), (2, 1), (3, 1)] := by kernel_rfl
theorem fa156_0 : tyFA Tryd.prog 156 0 = some 0 := by kernel_rfl
theorem ft156_0 : tyFT Tryd.prog 156 0 = some (0, 17) := by kernel_rfl
theorem fa156_1 : tyFA Tryd.prog 156 1 = some 1 := by kernel_rfl
theorem ft156_1 : tyFT Tryd.prog 156 1 = some (1, 17) := by kernel_rfl
theorem fa156_2 : tyFA Tryd.prog 156 2 = some 2 := by kernel_rfl
theorem ft156_2 : tyFT Tryd.prog 156 2 = some (2, 17) := by kernel_rfl
theorem fa156_3 : tyFA Tryd.prog 156 3 = some 3 := by kernel_rfl
theorem ft156_3 : tyFT Tryd.prog 156 3 = some (3, 9) := by kernel_rfl
theorem ag157 : tyAgg Tryd.prog 157 = some true := by kernel_rfl
theorem sz157 : tySz Tryd.prog 157 = some 4 := by kernel_rfl
theorem by157 : tyBy Tryd.prog 157 = some 40 := by kernel_rfl
theorem un157 : (Tryd.prog.underlying 157).isSome = true := by kernel_rfl
theorem ni157 : tyNoIf Tryd.prog 157 = true := by kernel_rfl
theorem kt157 : tyKsT Tryd.prog 157 = [none, none, none, none] := by kernel_rfl
theorem bo157 : tyBool Tryd.prog 157 = false := by kernel_rfl
theorem st157 : tyStr Tryd.prog 157 = false := by kernel_rfl
theorem ze157 : tyZ Tryd.prog 157 = some [.val (.pointer none), .val (.pointer none), .val (.pointer none), .val (.string ⟨#[]⟩)] := by kernel_rfl
theorem fi157 : tyF Tryd.prog 157 = some [(0, 1), (1, 1), (2, 1), (3, 1)] := by kernel_rfl
theorem fa157_0 : tyFA Tryd.prog 157 0 = some 0 := by kernel_rfl
theorem ft157_0 : tyFT Tryd.prog 157 0 = some (0, 17) := by kernel_rfl
theorem fa157_1 : tyFA Tryd.prog 157 1 = some 1 := by kernel_rfl
theorem ft157_1 : tyFT Tryd.prog 157 1 = some (1, 17) := by kernel_rfl
theorem fa157_2 : tyFA Tryd.prog 157 2 = some 2 := by kernel_rfl
theorem ft157_2 : tyFT Tryd.prog 157 2 = some (2, 17) := by kernel_rfl
theorem fa157_3 : tyFA Tryd.prog 157 3 = some 3 := by kernel_rfl
theorem ft157_3 : tyFT Tryd.prog 157 3 = some (3, 9) := by kernel_rfl
theorem ag159 : tyAgg Tryd.prog 159 = some true := by kernel_rfl
theorem sz159 : tySz Tryd.prog 159 = some 0 := by kernel_rfl
theorem by159 : tyBy Tryd.prog 159 = some 0 := by kernel_rfl
theorem un159 : (Tryd.prog.underlying 159).isSome = true := by kernel_rfl
theorem ni159 : tyNoIf Tryd.prog 159 = true := by kernel_rfl
theorem kt159 : tyKsT Tryd.prog 159 = [] := by kernel_rfl
theorem bo159 : tyBool Tryd.prog 159 = false := by kernel_rfl
theorem st159 : tyStr Tryd.prog 159 = false := by kernel_rfl
theorem ze159 : tyZ Tryd.prog 159 = some [] := by kernel_rfl
theorem fi159 : tyF Tryd.prog 159 = some [(0, 0)] := by kernel_rfl
theorem ft159_0 : tyFT Tryd.prog 159 0 = some (0, 158) := by kernel_rfl
theorem ag160 : tyAgg Tryd.prog 160 = some true := by kernel_rfl
theorem sz160 : tySz Tryd.prog 160 = some 0 := by kernel_rfl
theorem by160 : tyBy Tryd.prog 160 = some 0 := by kernel_rfl
theorem un160 : (Tryd.prog.underlying 160).isSome = true := by kernel_rfl
theorem ni160 : tyNoIf Tryd.prog 160 = true := by kernel_rfl
theorem kt160 : tyKsT Tryd.prog 160 = [] := by kernel_rfl
theorem bo160 : tyBool Tryd.prog 160 = false := by kernel_rfl
theorem st160 : tyStr Tryd.prog 160 = false := by kernel_rfl
theorem ze160 : tyZ Tryd.prog 160 = some [] := by kernel_rfl
theorem fi160 : tyF Tryd.prog 160 = some [(0, 0)] := by kernel_rfl
theorem ft160_0 : tyFT Tryd.prog 160 0 = some (0, 158) := by kernel_rfl
theorem ag161 : tyAgg Tryd.prog 161 = some false := by kernel_rfl
theorem sz161 : tySz Tryd.prog 161 = some 1 := by kernel_rfl
theorem by161 : tyBy Tryd.prog 161 = some 1 := by kernel_rfl
theorem un161 : (Tryd.prog.underlying 161).isSome = true := by kernel_rfl
theorem ni161 : tyNoIf Tryd.prog 161 = true := by kernel_rfl
theorem zo161 : tyZ1 Tryd.prog 161 = some ((.int .u8 0)) := by kernel_rfl
theorem kt161 : tyKsT Tryd.prog 161 = [none] := by kernel_rfl
theorem in161 : tyInt Tryd.prog 161 = some .u8 := by kernel_rfl
theorem bo161 : tyBool Tryd.prog 161 = false := by kernel_rfl
theorem st161 : tyStr Tryd.prog 161 = false := by kernel_rfl
theorem ze161 : tyZ Tryd.prog 161 = some [.val (.int .u8 0)] := by kernel_rfl
theorem ag162 : tyAgg Tryd.prog 162 = some false := by kernel_rfl
theorem sz162 : tySz Tryd.prog 162 = some 1 := by kernel_rfl
theorem by162 : tyBy Tryd.prog 162 = some 1 := by kernel_rfl
theorem un162 : (Tryd.prog.underlying 162).isSome = true := by kernel_rfl
theorem ni162 : tyNoIf Tryd.prog 162 = true := by kernel_rfl
theorem zo162 : tyZ1 Tryd.prog 162 = some ((.int .u8 0)) := by kernel_rfl
theorem kt162 : tyKsT Tryd.prog 162 = [none] := by kernel_rfl
theorem in162 : tyInt Tryd.prog 162 = some .u8 := by kernel_rfl
theorem bo162 : tyBool Tryd.prog 162 = false := by kernel_rfl
theorem st162 : tyStr Tryd.prog 162 = false := by kernel_rfl
theorem ze162 : tyZ Tryd.prog 162 = some [.val (.int .u8 0)] := by kernel_rfl
theorem nk163 : tyNil Tryd.prog 163 = some .func := by kernel_rfl
theorem ag163 : tyAgg Tryd.prog 163 = some false := by kernel_rfl
theorem sz163 : tySz Tryd.prog 163 = some 1 := by kernel_rfl
theorem by163 : tyBy Tryd.prog 163 = some 8 := by kernel_rfl
theorem un163 : (Tryd.prog.underlying 163).isSome = true := by kernel_rfl
theorem ni163 : tyNoIf Tryd.prog 163 = true := by kernel_rfl
theorem kt163 : tyKsT Tryd.prog 163 = [none] := by kernel_rfl
theorem bo163 : tyBool Tryd.prog 163 = false := by kernel_rfl
theorem st163 : tyStr Tryd.prog 163 = false := by kernel_rfl
theorem ze163 : tyZ Tryd.prog 163 = some [.val .nilFunc] := by kernel_rfl
theorem ag164 : tyAgg Tryd.prog 164 = some false := by kernel_rfl
theorem sz164 : tySz Tryd.prog 164 = some 1 := by kernel_rfl
theorem by164 : tyBy Tryd.prog 164 = some 4 := by kernel_rfl
theorem un164 : (Tryd.prog.underlying 164).isSome = true := by kernel_rfl
theorem ni164 : tyNoIf Tryd.prog 164 = true := by kernel_rfl
theorem zo164 : tyZ1 Tryd.prog 164 = some ((.int .i32 0)) := by kernel_rfl
theorem kt164 : tyKsT Tryd.prog 164 = [none] := by kernel_rfl
theorem in164 : tyInt Tryd.prog 164 = some .i32 := by kernel_rfl
theorem bo164 : tyBool Tryd.prog 164 = false := by kernel_rfl
theorem st164 : tyStr Tryd.prog 164 = false := by kernel_rfl
theorem ze164 : tyZ Tryd.prog 164 = some [.val (.int .i32 0)] := by kernel_rfl
theorem ag165 : tyAgg Tryd.prog 165 = some false := by kernel_rfl
theorem sz165 : tySz Tryd.prog 165 = some 1 := by kernel_rfl
theorem by165 : tyBy Tryd.prog 165 = some 4 := by kernel_rfl
theorem un165 : (Tryd.prog.underlying 165).isSome = true := by kernel_rfl
theorem ni165 : tyNoIf Tryd.prog 165 = true := by kernel_rfl
theorem zo165 : tyZ1 Tryd.prog 165 = some ((.int .i32 0)) := by kernel_rfl
theorem kt165 : tyKsT Tryd.prog 165 = [none] := by kernel_rfl
theorem in165 : tyInt Tryd.prog 165 = some .i32 := by kernel_rfl
theorem bo165 : tyBool Tryd.prog 165 = false := by kernel_rfl
theorem st165 : tyStr Tryd.prog 165 = false := by kernel_rfl
theorem ze165 : tyZ Tryd.prog 165 = some [.val (.int .i32 0)] := by kernel_rfl
theorem ag166 : tyAgg Tryd.prog 166 = some true := by kernel_rfl
theorem sz166 : tySz Tryd.prog 166 = some 11 := by kernel_rfl
theorem by166 : tyBy Tryd.prog 166 = some 48 := by kernel_rfl
theorem un166 : (Tryd.prog.underlying 166).isSome = true := by kernel_rfl
theorem ni166 : tyNoIf Tryd.prog 166 = true := by kernel_rfl
theorem kt166 : tyKsT Tryd.prog 166 = [none, none, none, none, none, none, none, none, none, none, none] := by kernel_rfl
theorem bo166 : tyBool Tryd.prog 166 = false := by kernel_rfl
theorem st166 : tyStr Tryd.prog 166 = false := by kernel_rfl
theorem ze166 : tyZ Tryd.prog 166 = some [.val (.int .u64 0), .val (.int .u64 0), .val (.int .u32 0), .val (.int .u8 0), .val (.int .u8 0), .val (.int .u8 0), .val (.int .u8 0), .val .nilFunc, .val (.pointer none), .val (.int .i32 0), .val (.int .i32 0)] := by kernel_rfl
theorem fi166 : tyF Tryd.prog 166 = some [(0, 1), (1, 1), (2, 1), (3, 1), (4, 1), (5, 1), (6, 1), (7, 1), (8, 1), (9, 1), (10, 1)] := by kernel_rfl
theorem fa166_0 : tyFA Tryd.prog 166 0 = some 0 := by kernel_rfl
theorem ft166_0 : tyFT Tryd.prog 166 0 = some (0, 12) := by kernel_rfl
theorem fa166_1 : tyFA Tryd.prog 166 1 = some 1 := by kernel_rfl
theorem ft166_1 : tyFT Tryd.prog 166 1 = some (1, 12) := by kernel_rfl
theorem fa166_2 : tyFA Tryd.prog 166 2 = some 2 := by kernel_rfl
theorem ft166_2 : tyFT Tryd.prog 166 2 = some (2, 99) := by kernel_rfl
theorem fa166_3 : tyFA Tryd.prog 166 3 = some 3 := by kernel_rfl
theorem ft166_3 : tyFT Tryd.prog 166 3 = some (3, 161) := by kernel_rfl
theorem fa166_4 : tyFA Tryd.prog 166 4 = some 4 := by kernel_rfl
theorem ft166_4 : tyFT Tryd.prog 166 4 = some (4, 5) := by kernel_rfl
theorem fa166_5 : tyFA Tryd.prog 166 5 = some 5 := by kernel_rfl
theorem ft166_5 : tyFT Tryd.prog 166 5 = some (5, 5) := by kernel_rfl
theorem fa166_6 : tyFA Tryd.prog 166 6 = some 6 := by kernel_rfl
theorem ft166_6 : tyFT Tryd.prog 166 6 = some (6, 162) := by kernel_rfl
theorem fa166_7 : tyFA Tryd.prog 166 7 = some 7 := by kernel_rfl
theorem ft166_7 : tyFT Tryd.prog 166 7 = some (7, 163) := by kernel_rfl
theorem fa166_8 : tyFA Tryd.prog 166 8 = some 8 := by kernel_rfl
theorem ft166_8 : tyFT Tryd.prog 166 8 = some (8, 118) := by kernel_rfl
theorem fa166_9 : tyFA Tryd.prog 166 9 = some 9 := by kernel_rfl
theorem ft166_9 : tyFT Tryd.prog 166 9 = some (9, 164) := by kernel_rfl
theorem fa166_10 : tyFA Tryd.prog 166 10 = some 10 := by kernel_rfl
theorem ft166_10 : tyFT Tryd.prog 166 10 = some (10, 165) := by kernel_rfl
theorem ag167 : tyAgg Tryd.prog 167 = some true := by kernel_rfl
theorem sz167 : tySz Tryd.prog 167 = some 11 := by kernel_rfl
theorem by167 : tyBy Tryd.prog 167 = some 48 := by kernel_rfl
theorem un167 : (Tryd.prog.underlying 167).isSome = true := by kernel_rfl
theorem ni167 : tyNoIf Tryd.prog 167 = true := by kernel_rfl
theorem kt167 : tyKsT Tryd.prog 167 = [none, none, none, none, none, none, none, none, none, none, none] := by kernel_rfl
theorem bo167 : tyBool Tryd.prog 167 = false := by kernel_rfl
theorem st167 : tyStr Tryd.prog 167 = false := by kernel_rfl
theorem ze167 : tyZ Tryd.prog 167 = some [.val (.int .u64 0), .val (.int .u64 0), .val (.int .u32 0), .val (.int .u8 0), .val (.int .u8 0), .val (.int .u8 0), .val (.int .u8 0), .val .nilFunc, .val (.pointer none), .val (.int .i32 0), .val (.int .i32 0)] := by kernel_rfl
theorem fi167 : tyF Tryd.prog 167 = some [(0, 1), (1, 1), (2, 1), (3, 1), (4, 1), (5, 1), (6, 1), (7, 1), (8, 1), (9, 1), (10, 1)] := by kernel_rfl
theorem fa167_0 : tyFA Tryd.prog 167 0 = some 0 := by kernel_rfl
theorem ft167_0 : tyFT Tryd.prog 167 0 = some (0, 12) := by kernel_rfl
theorem fa167_1 : tyFA Tryd.prog 167 1 = some 1 := by kernel_rfl
theorem ft167_1 : tyFT Tryd.prog 167 1 = some (1, 12) := by kernel_rfl
theorem fa167_2 : tyFA Tryd.prog 167 2 = some 2 := by kernel_rfl
theorem ft167_2 : tyFT Tryd.prog 167 2 = some (2, 99) := by kernel_rfl
theorem fa167_3 : tyFA Tryd.prog 167 3 = some 3 := by kernel_rfl
theorem ft167_3 : tyFT Tryd.prog 167 3 = some (3, 161) := by kernel_rfl
theorem fa167_4 : tyFA Tryd.prog 167 4 = some 4 := by kernel_rfl
theorem ft167_4 : tyFT Tryd.prog 167 4 = some (4, 5) := by kernel_rfl
theorem fa167_5 : tyFA Tryd.prog 167 5 = some 5 := by kernel_rfl
theorem ft167_5 : tyFT Tryd.prog 167 5 = some (5, 5) := by kernel_rfl
theorem fa167_6 : tyFA Tryd.prog 167 6 = some 6 := by kernel_rfl
theorem ft167_6 : tyFT Tryd.prog 167 6 = some (6, 162) := by kernel_rfl
theorem fa167_7 : tyFA Tryd.prog 167 7 = some 7 := by kernel_rfl
theorem ft167_7 : tyFT Tryd.prog 167 7 = some (7, 163) := by kernel_rfl
theorem fa167_8 : tyFA Tryd.prog 167 8 = some 8 := by kernel_rfl
theorem ft167_8 : tyFT Tryd.prog 167 8 = some (8, 118) := by kernel_rfl
theorem fa167_9 : tyFA Tryd.prog 167 9 = some 9 := by kernel_rfl
theorem ft167_9 : tyFT Tryd.prog 167 9 = some (9, 164) := by kernel_rfl
theorem fa167_10 : tyFA Tryd.prog 167 10 = some 10 := by kernel_rfl
theorem ft167_10 : tyFT Tryd.prog 167 10 = some (10, 165) := by kernel_rfl
theorem fo : Tryd.prog.follows .mixedOrders = true := by kernel_rfl
theorem ca3 : callable Tryd.prog 3 = true := by kernel_rfl
theorem ca4 : callable Tryd.prog 4 = true := by kernel_rfl
theorem ca5 : callable Tryd.prog 5 = true := by kernel_rfl
theorem ca6 : callable Tryd.prog 6 = true := by kernel_rfl
theorem ca7 : callable Tryd.prog 7 = true := by kernel_rfl
theorem ca8 : callable Tryd.prog 8 = true := by kernel_rfl
theorem ca9 : callable Tryd.prog 9 = true := by kernel_rfl
theorem ca10 : callable Tryd.prog 10 = true := by kernel_rfl
theorem ca11 : callable Tryd.prog 11 = true := by kernel_rfl
theorem ca12 : callable Tryd.prog 12 = true := by kernel_rfl
theorem ca13 : callable Tryd.prog 13 = true := by kernel_rfl
theorem ca14 : callable Tryd.prog 14 = true := by kernel_rfl
theorem ca15 : callable Tryd.prog 15 = true := by kernel_rfl
theorem ca16 : callable Tryd.prog 16 = true := by kernel_rfl
theorem ca17 : callable Tryd.prog 17 = true := by kernel_rfl
theorem ca18 : callable Tryd.prog 18 = true := by kernel_rfl
theorem ca19 : callable Tryd.prog 19 = true := by kernel_rfl
theorem ca20 : callable Tryd.prog 20 = true := by kernel_rfl
theorem ca21 : callable Tryd.prog 21 = true := by kernel_rfl
theorem ca22 : callable Tryd.prog 22 = true := by kernel_rfl
theorem ca23 : callable Tryd.prog 23 = true := by kernel_rfl
theorem ca24 : callable Tryd.prog 24 = true := by kernel_rfl
theorem ca25 : callable Tryd.prog 25 = true := by kernel_rfl
theorem ca26 : callable Tryd.prog 26 = true := by kernel_rfl
theorem ca27 : callable Tryd.prog 27 = true := by kernel_rfl
theorem ca28 : callable Tryd.prog 28 = true := by kernel_rfl
theorem ca29 : callable Tryd.prog 29 = true := by kernel_rfl
theorem ca30 : callable Tryd.prog 30 = true := by kernel_rfl
theorem ca31 : callable Tryd.prog 31 = true := by kernel_rfl
theorem ca32 : callable Tryd.prog 32 = true := by kernel_rfl
theorem ca33 : callable Tryd.prog 33 = true := by kernel_rfl
theorem ca34 : callable Tryd.prog 34 = true := by kernel_rfl
theorem ca35 : callable Tryd.prog 35 = true := by kernel_rfl
theorem ca36 : callable Tryd.prog 36 = true := by kernel_rfl
theorem ca37 : callable Tryd.prog 37 = true := by kernel_rfl
theorem ca38 : callable Tryd.prog 38 = true := by kernel_rfl
theorem ca39 : callable Tryd.prog 39 = true := by kernel_rfl
theorem ca40 : callable Tryd.prog 40 = true := by kernel_rfl
theorem ca41 : callable Tryd.prog 41 = true := by kernel_rfl
theorem ca42 : callable Tryd.prog 42 = true := by kernel_rfl
theorem ca43 : callable Tryd.prog 43 = true := by kernel_rfl
theorem ca44 : callable Tryd.prog 44 = true := by kernel_rfl
theorem ca45 : callable Tryd.prog 45 = true := by kernel_rfl
theorem ca46 : callable Tryd.prog 46 = true := by kernel_rfl
theorem ca47 : callable Tryd.prog 47 = true := by kernel_rfl
theorem ca48 : callable Tryd.prog 48 = true := by kernel_rfl
theorem ca49 : callable Tryd.prog 49 = true := by kernel_rfl
theorem ca50 : callable Tryd.prog 50 = true := by kernel_rfl
theorem ca51 : callable Tryd.prog 51 = true := by kernel_rfl
theorem ca52 : callable Tryd.prog 52 = true := by kernel_rfl
theorem ca53 : callable Tryd.prog 53 = true := by kernel_rfl
theorem ca55 : callable Tryd.prog 55 = true := by kernel_rfl
theorem ca56 : callable Tryd.prog 56 = true := by kernel_rfl
theorem ca57 : callable Tryd.prog 57 = true := by kernel_rfl
theorem ca58 : callable Tryd.prog 58 = true := by kernel_rfl
theorem ca59 : callable Tryd.prog 59 = true := by kernel_rfl
theorem ca60 : callable Tryd.prog 60 = true := by kernel_rfl
theorem ca61 : callable Tryd.prog 61 = true := by kernel_rfl
theorem ca62 : callable Tryd.prog 62 = true := by kernel_rfl
theorem ca63 : callable Tryd.prog 63 = true := by kernel_rfl
theorem ca64 : callable Tryd.prog 64 = true := by kernel_rfl
theorem ca65 : callable Tryd.prog 65 = true := by kernel_rfl
theorem ca66 : callable Tryd.prog 66 = true := by kernel_rfl
theorem ca67 : callable Tryd.prog 67 = true := by kernel_rfl
theorem ca68 : callable Tryd.prog 68 = true := by kernel_rfl
theorem ca69 : callable Tryd.prog 69 = true := by kernel_rfl
theorem ca70 : callable Tryd.prog 70 = true := by kernel_rfl
theorem ca71 : callable Tryd.prog 71 = true := by kernel_rfl
theorem ca72 : callable Tryd.prog 72 = true := by kernel_rfl
theorem ca73 : callable Tryd.prog 73 = true := by kernel_rfl
theorem ca74 : callable Tryd.prog 74 = true := by kernel_rfl
theorem ca75 : callable Tryd.prog 75 = true := by kernel_rfl
theorem ca76 : callable Tryd.prog 76 = true := by kernel_rfl
theorem ca77 : callable Tryd.prog 77 = true := by kernel_rfl
theorem ca78 : callable Tryd.prog 78 = true := by kernel_rfl
theorem ca79 : callable Tryd.prog 79 = true := by kernel_rfl
theorem ca80 : callable Tryd.prog 80 = true := by kernel_rfl
theorem ca81 : callable Tryd.prog 81 = true := by kernel_rfl
theorem ca82 : callable Tryd.prog 82 = true := by kernel_rfl
theorem ca83 : callable Tryd.prog 83 = true := by kernel_rfl
theorem ca85 : callable Tryd.prog 85 = true := by kernel_rfl
theorem ca87 : callable Tryd.prog 87 = true := by kernel_rfl
theorem ca88 : callable Tryd.prog 88 = true := by kernel_rfl
theorem ca89 : callable Tryd.prog 89 = true := by kernel_rfl
theorem ca90 : callable Tryd.prog 90 = true := by kernel_rfl
theorem ca91 : callable Tryd.prog 91 = true := by kernel_rfl
theorem ca92 : callable Tryd.prog 92 = true := by kernel_rfl
theorem ca95 : callable Tryd.prog 95 = true := by kernel_rfl
theorem ca96 : callable Tryd.prog 96 = true := by kernel_rfl
theorem ca97 : callable Tryd.prog 97 = true := by kernel_rfl
theorem ca98 : callable Tryd.prog 98 = true := by kernel_rfl
theorem ca99 : callable Tryd.prog 99 = true := by kernel_rfl
theorem ca100 : callable Tryd.prog 100 = true := by kernel_rfl
theorem ca101 : callable Tryd.prog 101 = true := by kernel_rfl
theorem ca102 : callable Tryd.prog 102 = true := by kernel_rfl
theorem ca103 : callable Tryd.prog 103 = true := by kernel_rfl
theorem ca104 : callable Tryd.prog 104 = true := by kernel_rfl
theorem ca105 : callable Tryd.prog 105 = true := by kernel_rfl
theorem ca106 : callable Tryd.prog 106 = true := by kernel_rfl
theorem tabs : ((((((((((type_of% @nk1) ∧ ((type_of% @ag1) ∧ (type_of% @sz1))) ∧ (((type_of% @by1) ∧ (type_of% @un1)) ∧ ((type_of% @ni1) ∧ (type_of% @kt1)))) ∧ (((type_of% @bo1) ∧ ((type_of% @st1) ∧ (type_of% @ze1))) ∧ (((type_of% @ag2) ∧ (type_of% @sz2)) ∧ ((type_of% @by2) ∧ (type_of% @un2))))) ∧ ((((type_of% @ni2) ∧ ((type_of% @zo2) ∧ (type_of% @kt2))) ∧ (((type_of% @in2) ∧ (type_of% @bo2)) ∧ ((type_of% @st2) ∧ (type_of% @ze2)))) ∧ (((type_of% @ag3) ∧ ((type_of% @sz3) ∧ (type_of% @by3))) ∧ (((type_of% @un3) ∧ (type_of% @ni3)) ∧ ((type_of% @zo3) ∧ (type_of% @kt3)))))) ∧ (((((type_of% @in3) ∧ ((type_of% @bo3) ∧ (type_of% @st3))) ∧ (((type_of% @ze3) ∧ (type_of% @ag4)) ∧ ((type_of% @sz4) ∧ (type_of% @by4)))) ∧ (((type_of% @un4) ∧ ((type_of% @ni4) ∧ (type_of% @zo4))) ∧ (((type_of% @kt4) ∧ (type_of% @bo4)) ∧ ((type_of% @st4) ∧ (type_of% @ze4))))) ∧ ((((type_of% @ag5) ∧ ((type_of% @sz5) ∧ (type_of% @by5))) ∧ (((type_of% @un5) ∧ (type_of% @ni5)) ∧ ((type_of% @zo5) ∧ (type_of% @kt5)))) ∧ (((type_of% @in5) ∧ ((type_of% @bo5) ∧ (type_of% @st5))) ∧ (((type_of% @ze5) ∧ (type_of% @ag6)) ∧ ((type_of% @sz6) ∧ (type_of% @by6))))))) ∧ ((((((type_of% @un6) ∧ ((type_of% @ni6) ∧ (type_of% @zo6))) ∧ (((type_of% @kt6) ∧ (type_of% @in6)) ∧ ((type_of% @bo6) ∧ (type_of% @st6)))) ∧ (((type_of% @ze6) ∧ ((type_of% @ag7) ∧ (type_of% @sz7))) ∧ (((type_of% @by7) ∧ (type_of% @un7)) ∧ ((type_of% @ni7) ∧ (type_of% @kt7))))) ∧ ((((type_of% @bo7) ∧ ((type_of% @st7) ∧ (type_of% @ze7))) ∧ (((type_of% @fi7) ∧ (type_of% @fa7_0)) ∧ ((type_of% @ft7_0) ∧ (type_of% @fa7_1)))) ∧ (((type_of% @ft7_1) ∧ ((type_of% @fa7_2) ∧ (type_of% @ft7_2))) ∧ (((type_of% @fa7_3) ∧ (type_of% @ft7_3)) ∧ ((type_of% @ag8) ∧ (type_of% @sz8)))))) ∧ (((((type_of% @by8) ∧ ((type_of% @un8) ∧ (type_of% @ni8))) ∧ (((type_of% @kt8) ∧ (type_of% @bo8)) ∧ ((type_of% @st8) ∧ (type_of% @ze8)))) ∧ (((type_of% @fi8) ∧ ((type_of% @fa8_0) ∧ (type_of% @ft8_0))) ∧ (((type_of% @fa8_1) ∧ (type_of% @ft8_1)) ∧ ((type_of% @fa8_2) ∧ (type_of% @ft8_2))))) ∧ ((((type_of% @fa8_3) ∧ ((type_of% @ft8_3) ∧ (type_of% @ag9))) ∧ (((type_of% @sz9) ∧ (type_of% @by9)) ∧ ((type_of% @un9) ∧ (type_of% @ni9)))) ∧ (((type_of% @zo9) ∧ ((type_of% @kt9) ∧ (type_of% @bo9))) ∧ (((type_of% @st9) ∧ (type_of% @ze9)) ∧ ((type_of% @ag10) ∧ (type_of% @sz10)))))))) ∧ (((((((type_of% @by10) ∧ ((type_of% @un10) ∧ (type_of% @ni10))) ∧ (((type_of% @zo10) ∧ (type_of% @kt10)) ∧ ((type_of% @bo10) ∧ (type_of% @st10)))) ∧ (((type_of% @ze10) ∧ ((type_of% @ag11) ∧ (type_of% @sz11))) ∧ (((type_of% @by11) ∧ (type_of% @un11)) ∧ ((type_of% @ni11) ∧ (type_of% @zo11))))) ∧ ((((type_of% @kt11) ∧ ((type_of% @bo11) ∧ (type_of% @st11))) ∧ (((type_of% @ze11) ∧ (type_of% @ag12)) ∧ ((type_of% @sz12) ∧ (type_of% @by12)))) ∧ (((type_of% @un12) ∧ ((type_of% @ni12) ∧ (type_of% @zo12))) ∧ (((type_of% @kt12) ∧ (type_of% @in12)) ∧ ((type_of% @bo12) ∧ (type_of% @st12)))))) ∧ (((((type_of% @ze12) ∧ ((type_of% @ag13) ∧ (type_of% @sz13))) ∧ (((type_of% @by13) ∧ (type_of% @un13)) ∧ ((type_of% @ni13) ∧ (type_of% @kt13)))) ∧ (((type_of% @bo13) ∧ ((type_of% @st13) ∧ (type_of% @ze13))) ∧ (((type_of% @fi13) ∧ (type_of% @fa13_0)) ∧ ((type_of% @ft13_0) ∧ (type_of% @fa13_1))))) ∧ ((((type_of% @ft13_1) ∧ ((type_of% @ag14) ∧ (type_of% @sz14))) ∧ (((type_of% @by14) ∧ (type_of% @un14)) ∧ ((type_of% @ni14) ∧ (type_of% @kt14)))) ∧ (((type_of% @bo14) ∧ ((type_of% @st14) ∧ (type_of% @ze14))) ∧ (((type_of% @fi14) ∧ (type_of% @fa14_0)) ∧ ((type_of% @ft14_0) ∧ (type_of% @fa14_1))))))) ∧ ((((((type_of% @ft14_1) ∧ ((type_of% @nk15) ∧ (type_of% @ag15))) ∧ (((type_of% @sz15) ∧ (type_of% @by15)) ∧ ((type_of% @un15) ∧ (type_of% @ni15)))) ∧ (((type_of% @zo15) ∧ ((type_of% @kt15) ∧ (type_of% @bo15))) ∧ (((type_of% @st15) ∧ (type_of% @ze15)) ∧ ((type_of% @nk16) ∧ (type_of% @ag16))))) ∧ ((((type_of% @sz16) ∧ ((type_of% @by16) ∧ (type_of% @un16))) ∧ (((type_of% @ni16) ∧ (type_of% @zo16)) ∧ ((type_of% @kt16) ∧ (type_of% @bo16)))) ∧ (((type_of% @st16) ∧ ((type_of% @ze16) ∧ (type_of% @nk17))) ∧ (((type_of% @ag17) ∧ (type_of% @sz17)) ∧ ((type_of% @by17) ∧ (type_of% @un17)))))) ∧ (((((type_of% @ni17) ∧ ((type_of% @zo17) ∧ (type_of% @kt17))) ∧ (((type_of% @bo17) ∧ (type_of% @st17)) ∧ ((type_of% @ze17) ∧ (type_of% @ag18)))) ∧ (((type_of% @sz18) ∧ ((type_of% @by18) ∧ (type_of% @un18))) ∧ (((type_of% @ni18) ∧ (type_of% @kt18)) ∧ ((type_of% @bo18) ∧ (type_of% @st18))))) ∧ ((((type_of% @ze18) ∧ ((type_of% @fi18) ∧ (type_of% @fa18_0))) ∧ (((type_of% @ft18_0) ∧ (type_of% @ag19)) ∧ ((type_of% @sz19) ∧ (type_of% @by19)))) ∧ ((((type_of% @un19) ∧ (type_of% @ni19)) ∧ ((type_of% @kt19) ∧ (type_of% @bo19))) ∧ (((type_of% @st19) ∧ (type_of% @ze19)) ∧ ((type_of% @fi19) ∧ (type_of% @fa19_0))))))))) ∧ ((((((((type_of% @ft19_0) ∧ ((type_of% @nk20) ∧ (type_of% @ag20))) ∧ (((type_of% @sz20) ∧ (type_of% @by20)) ∧ ((type_of% @un20) ∧ (type_of% @ni20)))) ∧ (((type_of% @kt20) ∧ ((type_of% @bo20) ∧ (type_of% @st20))) ∧ (((type_of% @ze20) ∧ (type_of% @ag21)) ∧ ((type_of% @sz21) ∧ (type_of% @by21))))) ∧ ((((type_of% @un21) ∧ ((type_of% @ni21) ∧ (type_of% @zo21))) ∧ (((type_of% @kt21) ∧ (type_of% @in21)) ∧ ((type_of% @bo21) ∧ (type_of% @st21)))) ∧ (((type_of% @ze21) ∧ ((type_of% @nk22) ∧ (type_of% @ag22))) ∧ (((type_of% @sz22) ∧ (type_of% @by22)) ∧ ((type_of% @un22) ∧ (type_of% @ni22)))))) ∧ (((((type_of% @zo22) ∧ ((type_of% @ke22) ∧ (type_of% @kt22))) ∧ (((type_of% @el22) ∧ (type_of% @bo22)) ∧ ((type_of% @st22) ∧ (type_of% @ze22)))) ∧ (((type_of% @ag23) ∧ ((type_of% @sz23) ∧ (type_of% @by23))) ∧ (((type_of% @un23) ∧ (type_of% @ni23)) ∧ ((type_of% @zo23) ∧ (type_of% @kt23))))) ∧ ((((type_of% @in23) ∧ ((type_of% @bo23) ∧ (type_of% @st23))) ∧ (((type_of% @ze23) ∧ (type_of% @nk25)) ∧ ((type_of% @ag25) ∧ (type_of% @sz25)))) ∧ (((type_of% @by25) ∧ ((type_of% @un25) ∧ (type_of% @ni25))) ∧ (((type_of% @kt25) ∧ (type_of% @bo25)) ∧ ((type_of% @st25) ∧ (type_of% @ze25))))))) ∧ ((((((type_of% @nk26) ∧ ((type_of% @ag26) ∧ (type_of% @sz26))) ∧ (((type_of% @by26) ∧ (type_of% @un26)) ∧ ((type_of% @ni26) ∧ (type_of% @kt26)))) ∧ (((type_of% @bo26) ∧ ((type_of% @st26) ∧ (type_of% @ze26))) ∧ (((type_of% @nk27) ∧ (type_of% @ag27)) ∧ ((type_of% @sz27) ∧ (type_of% @by27))))) ∧ ((((type_of% @un27) ∧ ((type_of% @ni27) ∧ (type_of% @kt27))) ∧ (((type_of% @bo27) ∧ (type_of% @st27)) ∧ ((type_of% @ze27) ∧ (type_of% @nk29)))) ∧ (((type_of% @ag29) ∧ ((type_of% @sz29) ∧ (type_of% @by29))) ∧ (((type_of% @un29) ∧ (type_of% @ni29)) ∧ ((type_of% @kt29) ∧ (type_of% @bo29)))))) ∧ (((((type_of% @st29) ∧ ((type_of% @ze29) ∧ (type_of% @nk30))) ∧ (((type_of% @ag30) ∧ (type_of% @sz30)) ∧ ((type_of% @by30) ∧ (type_of% @un30)))) ∧ (((type_of% @ni30) ∧ ((type_of% @kt30) ∧ (type_of% @bo30))) ∧ (((type_of% @st30) ∧ (type_of% @ze30)) ∧ ((type_of% @nk31) ∧ (type_of% @ag31))))) ∧ ((((type_of% @sz31) ∧ ((type_of% @by31) ∧ (type_of% @un31))) ∧ (((type_of% @ni31) ∧ (type_of% @zo31)) ∧ ((type_of% @ke31) ∧ (type_of% @kt31)))) ∧ (((type_of% @el31) ∧ ((type_of% @bo31) ∧ (type_of% @st31))) ∧ (((type_of% @ze31) ∧ (type_of% @nk32)) ∧ ((type_of% @ag32) ∧ (type_of% @sz32)))))))) ∧ (((((((type_of% @by32) ∧ ((type_of% @un32) ∧ (type_of% @ni32))) ∧ (((type_of% @zo32) ∧ (type_of% @ke32)) ∧ ((type_of% @kt32) ∧ (type_of% @el32)))) ∧ (((type_of% @bo32) ∧ ((type_of% @st32) ∧ (type_of% @ze32))) ∧ (((type_of% @ag33) ∧ (type_of% @sz33)) ∧ ((type_of% @by33) ∧ (type_of% @un33))))) ∧ ((((type_of% @ni33) ∧ ((type_of% @kt33) ∧ (type_of% @bo33))) ∧ (((type_of% @st33) ∧ (type_of% @ze33)) ∧ ((type_of% @fi33) ∧ (type_of% @fa33_0)))) ∧ (((type_of% @ft33_0) ∧ ((type_of% @fa33_1) ∧ (type_of% @ft33_1))) ∧ (((type_of% @fa33_2) ∧ (type_of% @ft33_2)) ∧ ((type_of% @fa33_3) ∧ (type_of% @ft33_3)))))) ∧ (((((type_of% @ag34) ∧ ((type_of% @sz34) ∧ (type_of% @by34))) ∧ (((type_of% @un34) ∧ (type_of% @ni34)) ∧ ((type_of% @kt34) ∧ (type_of% @bo34)))) ∧ (((type_of% @st34) ∧ ((type_of% @ze34) ∧ (type_of% @fi34))) ∧ (((type_of% @fa34_0) ∧ (type_of% @ft34_0)) ∧ ((type_of% @fa34_1) ∧ (type_of% @ft34_1))))) ∧ ((((type_of% @fa34_2) ∧ ((type_of% @ft34_2) ∧ (type_of% @fa34_3))) ∧ (((type_of% @ft34_3) ∧ (type_of% @nk36)) ∧ ((type_of% @ag36) ∧ (type_of% @sz36)))) ∧ (((type_of% @by36) ∧ ((type_of% @un36) ∧ (type_of% @ni36))) ∧ (((type_of% @kt36) ∧ (type_of% @bo36)) ∧ ((type_of% @st36) ∧ (type_of% @ze36))))))) ∧ ((((((type_of% @ag37) ∧ ((type_of% @sz37) ∧ (type_of% @by37))) ∧ (((type_of% @un37) ∧ (type_of% @ni37)) ∧ ((type_of% @kt37) ∧ (type_of% @bo37)))) ∧ (((type_of% @st37) ∧ ((type_of% @ze37) ∧ (type_of% @fi37))) ∧ (((type_of% @fa37_0) ∧ (type_of% @ft37_0)) ∧ ((type_of% @fa37_1) ∧ (type_of% @ft37_1))))) ∧ ((((type_of% @ag38) ∧ ((type_of% @sz38) ∧ (type_of% @by38))) ∧ (((type_of% @un38) ∧ (type_of% @ni38)) ∧ ((type_of% @kt38) ∧ (type_of% @bo38)))) ∧ (((type_of% @st38) ∧ ((type_of% @ze38) ∧ (type_of% @eq38))) ∧ (((type_of% @fi38) ∧ (type_of% @fa38_0)) ∧ ((type_of% @ft38_0) ∧ (type_of% @fa38_1)))))) ∧ (((((type_of% @ft38_1) ∧ ((type_of% @nk40) ∧ (type_of% @ag40))) ∧ (((type_of% @sz40) ∧ (type_of% @by40)) ∧ ((type_of% @un40) ∧ (type_of% @ni40)))) ∧ (((type_of% @kt40) ∧ ((type_of% @bo40) ∧ (type_of% @st40))) ∧ (((type_of% @ze40) ∧ (type_of% @nk41)) ∧ ((type_of% @ag41) ∧ (type_of% @sz41))))) ∧ ((((type_of% @by41) ∧ ((type_of% @un41) ∧ (type_of% @ni41))) ∧ (((type_of% @kt41) ∧ (type_of% @bo41)) ∧ ((type_of% @st41) ∧ (type_of% @ze41)))) ∧ ((((type_of% @nk42) ∧ (type_of% @ag42)) ∧ ((type_of% @sz42) ∧ (type_of% @by42))) ∧ (((type_of% @un42) ∧ (type_of% @ni42)) ∧ ((type_of% @kt42) ∧ (type_of% @bo42)))))))))) ∧ (((((((((type_of% @st42) ∧ ((type_of% @ze42) ∧ (type_of% @nk43))) ∧ (((type_of% @ag43) ∧ (type_of% @sz43)) ∧ ((type_of% @by43) ∧ (type_of% @un43)))) ∧ (((type_of% @ni43) ∧ ((type_of% @kt43) ∧ (type_of% @bo43))) ∧ (((type_of% @st43) ∧ (type_of% @ze43)) ∧ ((type_of% @ag44) ∧ (type_of% @sz44))))) ∧ ((((type_of% @by44) ∧ ((type_of% @un44) ∧ (type_of% @ni44))) ∧ (((type_of% @kt44) ∧ (type_of% @bo44)) ∧ ((type_of% @st44) ∧ (type_of% @ze44)))) ∧ (((type_of% @fi44) ∧ ((type_of% @fa44_0) ∧ (type_of% @ft44_0))) ∧ (((type_of% @fa44_1) ∧ (type_of% @ft44_1)) ∧ ((type_of% @fa44_2) ∧ (type_of% @ft44_2)))))) ∧ (((((type_of% @ag45) ∧ ((type_of% @sz45) ∧ (type_of% @by45))) ∧ (((type_of% @un45) ∧ (type_of% @ni45)) ∧ ((type_of% @kt45) ∧ (type_of% @bo45)))) ∧ (((type_of% @st45) ∧ ((type_of% @ze45) ∧ (type_of% @eq45))) ∧ (((type_of% @fi45) ∧ (type_of% @fa45_0)) ∧ ((type_of% @ft45_0) ∧ (type_of% @fa45_1))))) ∧ ((((type_of% @ft45_1) ∧ ((type_of% @fa45_2) ∧ (type_of% @ft45_2))) ∧ (((type_of% @nk46) ∧ (type_of% @ag46)) ∧ ((type_of% @sz46) ∧ (type_of% @by46)))) ∧ (((type_of% @un46) ∧ ((type_of% @ni46) ∧ (type_of% @zo46))) ∧ (((type_of% @ke46) ∧ (type_of% @kt46)) ∧ ((type_of% @el46) ∧ (type_of% @bo46))))))) ∧ ((((((type_of% @st46) ∧ ((type_of% @ze46) ∧ (type_of% @ag47))) ∧ (((type_of% @sz47) ∧ (type_of% @by47)) ∧ ((type_of% @un47) ∧ (type_of% @ni47)))) ∧ (((type_of% @kt47) ∧ ((type_of% @bo47) ∧ (type_of% @st47))) ∧ (((type_of% @ze47) ∧ (type_of% @fi47)) ∧ ((type_of% @fa47_0) ∧ (type_of% @ft47_0))))) ∧ ((((type_of% @fa47_1) ∧ ((type_of% @ft47_1) ∧ (type_of% @fa47_2))) ∧ (((type_of% @ft47_2) ∧ (type_of% @fa47_3)) ∧ ((type_of% @ft47_3) ∧ (type_of% @fa47_4)))) ∧ (((type_of% @ft47_4) ∧ ((type_of% @fa47_5) ∧ (type_of% @ft47_5))) ∧ (((type_of% @ag48) ∧ (type_of% @sz48)) ∧ ((type_of% @by48) ∧ (type_of% @un48)))))) ∧ (((((type_of% @ni48) ∧ ((type_of% @kt48) ∧ (type_of% @bo48))) ∧ (((type_of% @st48) ∧ (type_of% @ze48)) ∧ ((type_of% @fi48) ∧ (type_of% @fa48_0)))) ∧ (((type_of% @ft48_0) ∧ ((type_of% @fa48_1) ∧ (type_of% @ft48_1))) ∧ (((type_of% @fa48_2) ∧ (type_of% @ft48_2)) ∧ ((type_of% @fa48_3) ∧ (type_of% @ft48_3))))) ∧ ((((type_of% @fa48_4) ∧ ((type_of% @ft48_4) ∧ (type_of% @fa48_5))) ∧ (((type_of% @ft48_5) ∧ (type_of% @nk49)) ∧ ((type_of% @ag49) ∧ (type_of% @sz49)))) ∧ (((type_of% @by49) ∧ ((type_of% @un49) ∧ (type_of% @ni49))) ∧ (((type_of% @kt49) ∧ (type_of% @bo49)) ∧ ((type_of% @st49) ∧ (type_of% @ze49)))))))) ∧ (((((((type_of% @nk50) ∧ ((type_of% @ag50) ∧ (type_of% @sz50))) ∧ (((type_of% @by50) ∧ (type_of% @un50)) ∧ ((type_of% @ni50) ∧ (type_of% @kt50)))) ∧ (((type_of% @bo50) ∧ ((type_of% @st50) ∧ (type_of% @ze50))) ∧ (((type_of% @nk52) ∧ (type_of% @ag52)) ∧ ((type_of% @sz52) ∧ (type_of% @by52))))) ∧ ((((type_of% @un52) ∧ ((type_of% @ni52) ∧ (type_of% @kt52))) ∧ (((type_of% @bo52) ∧ (type_of% @st52)) ∧ ((type_of% @ze52) ∧ (type_of% @nk53)))) ∧ (((type_of% @ag53) ∧ ((type_of% @sz53) ∧ (type_of% @by53))) ∧ (((type_of% @un53) ∧ (type_of% @ni53)) ∧ ((type_of% @zo53) ∧ (type_of% @ke53)))))) ∧ (((((type_of% @kt53) ∧ ((type_of% @el53) ∧ (type_of% @bo53))) ∧ (((type_of% @st53) ∧ (type_of% @ze53)) ∧ ((type_of% @nk54) ∧ (type_of% @ag54)))) ∧ (((type_of% @sz54) ∧ ((type_of% @by54) ∧ (type_of% @un54))) ∧ (((type_of% @ni54) ∧ (type_of% @kt54)) ∧ ((type_of% @bo54) ∧ (type_of% @st54))))) ∧ ((((type_of% @ze54) ∧ ((type_of% @nk55) ∧ (type_of% @ag55))) ∧ (((type_of% @sz55) ∧ (type_of% @by55)) ∧ ((type_of% @un55) ∧ (type_of% @ni55)))) ∧ (((type_of% @kt55) ∧ ((type_of% @bo55) ∧ (type_of% @st55))) ∧ (((type_of% @ze55) ∧ (type_of% @nk56)) ∧ ((type_of% @ag56) ∧ (type_of% @sz56))))))) ∧ ((((((type_of% @by56) ∧ ((type_of% @un56) ∧ (type_of% @ni56))) ∧ (((type_of% @kt56) ∧ (type_of% @bo56)) ∧ ((type_of% @st56) ∧ (type_of% @ze56)))) ∧ (((type_of% @nk57) ∧ ((type_of% @ag57) ∧ (type_of% @sz57))) ∧ (((type_of% @by57) ∧ (type_of% @un57)) ∧ ((type_of% @ni57) ∧ (type_of% @kt57))))) ∧ ((((type_of% @bo57) ∧ ((type_of% @st57) ∧ (type_of% @ze57))) ∧ (((type_of% @nk58) ∧ (type_of% @ag58)) ∧ ((type_of% @sz58) ∧ (type_of% @by58)))) ∧ (((type_of% @un58) ∧ ((type_of% @ni58) ∧ (type_of% @kt58))) ∧ (((type_of% @bo58) ∧ (type_of% @st58)) ∧ ((type_of% @ze58) ∧ (type_of% @nk59)))))) ∧ (((((type_of% @ag59) ∧ ((type_of% @sz59) ∧ (type_of% @by59))) ∧ (((type_of% @un59) ∧ (type_of% @ni59)) ∧ ((type_of% @zo59) ∧ (type_of% @ke59)))) ∧ (((type_of% @kt59) ∧ ((type_of% @el59) ∧ (type_of% @bo59))) ∧ (((type_of% @st59) ∧ (type_of% @ze59)) ∧ ((type_of% @nk61) ∧ (type_of% @ag61))))) ∧ ((((type_of% @sz61) ∧ ((type_of% @by61) ∧ (type_of% @un61))) ∧ (((type_of% @ni61) ∧ (type_of% @kt61)) ∧ ((type_of% @bo61) ∧ (type_of% @st61)))) ∧ ((((type_of% @ze61) ∧ (type_of% @nk63)) ∧ ((type_of% @ag63) ∧ (type_of% @sz63))) ∧ (((type_of% @by63) ∧ (type_of% @un63)) ∧ ((type_of% @ni63) ∧ (type_of% @kt63))))))))) ∧ ((((((((type_of% @bo63) ∧ ((type_of% @st63) ∧ (type_of% @ze63))) ∧ (((type_of% @nk65) ∧ (type_of% @ag65)) ∧ ((type_of% @sz65) ∧ (type_of% @by65)))) ∧ (((type_of% @un65) ∧ ((type_of% @ni65) ∧ (type_of% @kt65))) ∧ (((type_of% @bo65) ∧ (type_of% @st65)) ∧ ((type_of% @ze65) ∧ (type_of% @nk66))))) ∧ ((((type_of% @ag66) ∧ ((type_of% @sz66) ∧ (type_of% @by66))) ∧ (((type_of% @un66) ∧ (type_of% @ni66)) ∧ ((type_of% @kt66) ∧ (type_of% @bo66)))) ∧ (((type_of% @st66) ∧ ((type_of% @ze66) ∧ (type_of% @nk67))) ∧ (((type_of% @ag67) ∧ (type_of% @sz67)) ∧ ((type_of% @by67) ∧ (type_of% @un67)))))) ∧ (((((type_of% @ni67) ∧ ((type_of% @kt67) ∧ (type_of% @bo67))) ∧ (((type_of% @st67) ∧ (type_of% @ze67)) ∧ ((type_of% @nk68) ∧ (type_of% @ag68)))) ∧ (((type_of% @sz68) ∧ ((type_of% @by68) ∧ (type_of% @un68))) ∧ (((type_of% @ni68) ∧ (type_of% @kt68)) ∧ ((type_of% @bo68) ∧ (type_of% @st68))))) ∧ ((((type_of% @ze68) ∧ ((type_of% @nk69) ∧ (type_of% @ag69))) ∧ (((type_of% @sz69) ∧ (type_of% @by69)) ∧ ((type_of% @un69) ∧ (type_of% @ni69)))) ∧ (((type_of% @kt69) ∧ ((type_of% @bo69) ∧ (type_of% @st69))) ∧ (((type_of% @ze69) ∧ (type_of% @nk70)) ∧ ((type_of% @ag70) ∧ (type_of% @sz70))))))) ∧ ((((((type_of% @by70) ∧ ((type_of% @un70) ∧ (type_of% @ni70))) ∧ (((type_of% @kt70) ∧ (type_of% @bo70)) ∧ ((type_of% @st70) ∧ (type_of% @ze70)))) ∧ (((type_of% @nk71) ∧ ((type_of% @ag71) ∧ (type_of% @sz71))) ∧ (((type_of% @by71) ∧ (type_of% @un71)) ∧ ((type_of% @ni71) ∧ (type_of% @kt71))))) ∧ ((((type_of% @bo71) ∧ ((type_of% @st71) ∧ (type_of% @ze71))) ∧ (((type_of% @nk72) ∧ (type_of% @ag72)) ∧ ((type_of% @sz72) ∧ (type_of% @by72)))) ∧ (((type_of% @un72) ∧ ((type_of% @ni72) ∧ (type_of% @kt72))) ∧ (((type_of% @bo72) ∧ (type_of% @st72)) ∧ ((type_of% @ze72) ∧ (type_of% @nk73)))))) ∧ (((((type_of% @ag73) ∧ ((type_of% @sz73) ∧ (type_of% @by73))) ∧ (((type_of% @un73) ∧ (type_of% @ni73)) ∧ ((type_of% @kt73) ∧ (type_of% @bo73)))) ∧ (((type_of% @st73) ∧ ((type_of% @ze73) ∧ (type_of% @ag74))) ∧ (((type_of% @sz74) ∧ (type_of% @by74)) ∧ ((type_of% @un74) ∧ (type_of% @ni74))))) ∧ ((((type_of% @zo74) ∧ ((type_of% @kt74) ∧ (type_of% @in74))) ∧ (((type_of% @bo74) ∧ (type_of% @st74)) ∧ ((type_of% @ze74) ∧ (type_of% @ag75)))) ∧ (((type_of% @sz75) ∧ ((type_of% @by75) ∧ (type_of% @un75))) ∧ (((type_of% @ni75) ∧ (type_of% @zo75)) ∧ ((type_of% @kt75) ∧ (type_of% @in75)))))))) ∧ (((((((type_of% @bo75) ∧ ((type_of% @st75) ∧ (type_of% @ze75))) ∧ (((type_of% @nk76) ∧ (type_of% @ag76)) ∧ ((type_of% @sz76) ∧ (type_of% @by76)))) ∧ (((type_of% @un76) ∧ ((type_of% @ni76) ∧ (type_of% @kt76))) ∧ (((type_of% @bo76) ∧ (type_of% @st76)) ∧ ((type_of% @ze76) ∧ (type_of% @nk77))))) ∧ ((((type_of% @ag77) ∧ ((type_of% @sz77) ∧ (type_of% @by77))) ∧ (((type_of% @un77) ∧ (type_of% @ni77)) ∧ ((type_of% @kt77) ∧ (type_of% @bo77)))) ∧ (((type_of% @st77) ∧ ((type_of% @ze77) ∧ (type_of% @nk78))) ∧ (((type_of% @ag78) ∧ (type_of% @sz78)) ∧ ((type_of% @by78) ∧ (type_of% @un78)))))) ∧ (((((type_of% @ni78) ∧ ((type_of% @kt78) ∧ (type_of% @bo78))) ∧ (((type_of% @st78) ∧ (type_of% @ze78)) ∧ ((type_of% @nk79) ∧ (type_of% @ag79)))) ∧ (((type_of% @sz79) ∧ ((type_of% @by79) ∧ (type_of% @un79))) ∧ (((type_of% @ni79) ∧ (type_of% @kt79)) ∧ ((type_of% @bo79) ∧ (type_of% @st79))))) ∧ ((((type_of% @ze79) ∧ ((type_of% @nk80) ∧ (type_of% @ag80))) ∧ (((type_of% @sz80) ∧ (type_of% @by80)) ∧ ((type_of% @un80) ∧ (type_of% @ni80)))) ∧ (((type_of% @kt80) ∧ ((type_of% @bo80) ∧ (type_of% @st80))) ∧ (((type_of% @ze80) ∧ (type_of% @nk81)) ∧ ((type_of% @ag81) ∧ (type_of% @sz81))))))) ∧ ((((((type_of% @by81) ∧ ((type_of% @un81) ∧ (type_of% @ni81))) ∧ (((type_of% @kt81) ∧ (type_of% @bo81)) ∧ ((type_of% @st81) ∧ (type_of% @ze81)))) ∧ (((type_of% @nk83) ∧ ((type_of% @ag83) ∧ (type_of% @sz83))) ∧ (((type_of% @by83) ∧ (type_of% @un83)) ∧ ((type_of% @ni83) ∧ (type_of% @kt83))))) ∧ ((((type_of% @bo83) ∧ ((type_of% @st83) ∧ (type_of% @ze83))) ∧ (((type_of% @nk84) ∧ (type_of% @ag84)) ∧ ((type_of% @sz84) ∧ (type_of% @by84)))) ∧ (((type_of% @un84) ∧ ((type_of% @ni84) ∧ (type_of% @kt84))) ∧ (((type_of% @bo84) ∧ (type_of% @st84)) ∧ ((type_of% @ze84) ∧ (type_of% @nk85)))))) ∧ (((((type_of% @ag85) ∧ ((type_of% @sz85) ∧ (type_of% @by85))) ∧ (((type_of% @un85) ∧ (type_of% @ni85)) ∧ ((type_of% @kt85) ∧ (type_of% @bo85)))) ∧ (((type_of% @st85) ∧ ((type_of% @ze85) ∧ (type_of% @nk86))) ∧ (((type_of% @ag86) ∧ (type_of% @sz86)) ∧ ((type_of% @by86) ∧ (type_of% @un86))))) ∧ ((((type_of% @ni86) ∧ ((type_of% @kt86) ∧ (type_of% @bo86))) ∧ (((type_of% @st86) ∧ (type_of% @ze86)) ∧ ((type_of% @nk87) ∧ (type_of% @ag87)))) ∧ ((((type_of% @sz87) ∧ (type_of% @by87)) ∧ ((type_of% @un87) ∧ (type_of% @ni87))) ∧ (((type_of% @kt87) ∧ (type_of% @bo87)) ∧ ((type_of% @st87) ∧ (type_of% @ze87))))))))))) ∧ ((((((((((type_of% @nk88) ∧ ((type_of% @ag88) ∧ (type_of% @sz88))) ∧ (((type_of% @by88) ∧ (type_of% @un88)) ∧ ((type_of% @ni88) ∧ (type_of% @kt88)))) ∧ (((type_of% @bo88) ∧ ((type_of% @st88) ∧ (type_of% @ze88))) ∧ (((type_of% @nk89) ∧ (type_of% @ag89)) ∧ ((type_of% @sz89) ∧ (type_of% @by89))))) ∧ ((((type_of% @un89) ∧ ((type_of% @ni89) ∧ (type_of% @kt89))) ∧ (((type_of% @bo89) ∧ (type_of% @st89)) ∧ ((type_of% @ze89) ∧ (type_of% @nk90)))) ∧ (((type_of% @ag90) ∧ ((type_of% @sz90) ∧ (type_of% @by90))) ∧ (((type_of% @un90) ∧ (type_of% @ni90)) ∧ ((type_of% @kt90) ∧ (type_of% @bo90)))))) ∧ (((((type_of% @st90) ∧ ((type_of% @ze90) ∧ (type_of% @nk92))) ∧ (((type_of% @ag92) ∧ (type_of% @sz92)) ∧ ((type_of% @by92) ∧ (type_of% @un92)))) ∧ (((type_of% @ni92) ∧ ((type_of% @kt92) ∧ (type_of% @bo92))) ∧ (((type_of% @st92) ∧ (type_of% @ze92)) ∧ ((type_of% @nk93) ∧ (type_of% @ag93))))) ∧ ((((type_of% @sz93) ∧ ((type_of% @by93) ∧ (type_of% @un93))) ∧ (((type_of% @ni93) ∧ (type_of% @kt93)) ∧ ((type_of% @bo93) ∧ (type_of% @st93)))) ∧ (((type_of% @ze93) ∧ ((type_of% @ag94) ∧ (type_of% @sz94))) ∧ (((type_of% @by94) ∧ (type_of% @un94)) ∧ ((type_of% @ni94) ∧ (type_of% @kt94))))))) ∧ ((((((type_of% @bo94) ∧ ((type_of% @st94) ∧ (type_of% @ze94))) ∧ (((type_of% @fi94) ∧ (type_of% @fa94_0)) ∧ ((type_of% @ft94_0) ∧ (type_of% @fa94_1)))) ∧ (((type_of% @ft94_1) ∧ ((type_of% @fa94_2) ∧ (type_of% @ft94_2))) ∧ (((type_of% @fa94_3) ∧ (type_of% @ft94_3)) ∧ ((type_of% @fa94_4) ∧ (type_of% @ft94_4))))) ∧ ((((type_of% @fa94_5) ∧ ((type_of% @ft94_5) ∧ (type_of% @ag95))) ∧ (((type_of% @sz95) ∧ (type_of% @by95)) ∧ ((type_of% @un95) ∧ (type_of% @ni95)))) ∧ (((type_of% @kt95) ∧ ((type_of% @bo95) ∧ (type_of% @st95))) ∧ (((type_of% @ze95) ∧ (type_of% @eq95)) ∧ ((type_of% @fi95) ∧ (type_of% @fa95_0)))))) ∧ (((((type_of% @ft95_0) ∧ ((type_of% @fa95_1) ∧ (type_of% @ft95_1))) ∧ (((type_of% @fa95_2) ∧ (type_of% @ft95_2)) ∧ ((type_of% @fa95_3) ∧ (type_of% @ft95_3)))) ∧ (((type_of% @fa95_4) ∧ ((type_of% @ft95_4) ∧ (type_of% @fa95_5))) ∧ (((type_of% @ft95_5) ∧ (type_of% @nk96)) ∧ ((type_of% @ag96) ∧ (type_of% @sz96))))) ∧ ((((type_of% @by96) ∧ ((type_of% @un96) ∧ (type_of% @ni96))) ∧ (((type_of% @zo96) ∧ (type_of% @ke96)) ∧ ((type_of% @kt96) ∧ (type_of% @el96)))) ∧ (((type_of% @bo96) ∧ ((type_of% @st96) ∧ (type_of% @ze96))) ∧ (((type_of% @nk97) ∧ (type_of% @ag97)) ∧ ((type_of% @sz97) ∧ (type_of% @by97)))))))) ∧ (((((((type_of% @un97) ∧ ((type_of% @ni97) ∧ (type_of% @kt97))) ∧ (((type_of% @bo97) ∧ (type_of% @st97)) ∧ ((type_of% @ze97) ∧ (type_of% @nk98)))) ∧ (((type_of% @ag98) ∧ ((type_of% @sz98) ∧ (type_of% @by98))) ∧ (((type_of% @un98) ∧ (type_of% @ni98)) ∧ ((type_of% @kt98) ∧ (type_of% @bo98))))) ∧ ((((type_of% @st98) ∧ ((type_of% @ze98) ∧ (type_of% @ag99))) ∧ (((type_of% @sz99) ∧ (type_of% @by99)) ∧ ((type_of% @un99) ∧ (type_of% @ni99)))) ∧ (((type_of% @zo99) ∧ ((type_of% @kt99) ∧ (type_of% @in99))) ∧ (((type_of% @bo99) ∧ (type_of% @st99)) ∧ ((type_of% @ze99) ∧ (type_of% @nk100)))))) ∧ (((((type_of% @ag100) ∧ ((type_of% @sz100) ∧ (type_of% @by100))) ∧ (((type_of% @un100) ∧ (type_of% @ni100)) ∧ ((type_of% @kt100) ∧ (type_of% @bo100)))) ∧ (((type_of% @st100) ∧ ((type_of% @ze100) ∧ (type_of% @nk101))) ∧ (((type_of% @ag101) ∧ (type_of% @sz101)) ∧ ((type_of% @by101) ∧ (type_of% @un101))))) ∧ ((((type_of% @ni101) ∧ ((type_of% @zo101) ∧ (type_of% @kt101))) ∧ (((type_of% @bo101) ∧ (type_of% @st101)) ∧ ((type_of% @ze101) ∧ (type_of% @ag102)))) ∧ (((type_of% @sz102) ∧ ((type_of% @by102) ∧ (type_of% @un102))) ∧ (((type_of% @ni102) ∧ (type_of% @kt102)) ∧ ((type_of% @bo102) ∧ (type_of% @st102))))))) ∧ ((((((type_of% @ze102) ∧ ((type_of% @fi102) ∧ (type_of% @fa102_0))) ∧ (((type_of% @ft102_0) ∧ (type_of% @fa102_1)) ∧ ((type_of% @ft102_1) ∧ (type_of% @ag103)))) ∧ (((type_of% @sz103) ∧ ((type_of% @by103) ∧ (type_of% @un103))) ∧ (((type_of% @ni103) ∧ (type_of% @kt103)) ∧ ((type_of% @bo103) ∧ (type_of% @st103))))) ∧ ((((type_of% @ze103) ∧ ((type_of% @fi103) ∧ (type_of% @fa103_0))) ∧ (((type_of% @ft103_0) ∧ (type_of% @fa103_1)) ∧ ((type_of% @ft103_1) ∧ (type_of% @nk104)))) ∧ (((type_of% @ag104) ∧ ((type_of% @sz104) ∧ (type_of% @by104))) ∧ (((type_of% @un104) ∧ (type_of% @ni104)) ∧ ((type_of% @kt104) ∧ (type_of% @bo104)))))) ∧ (((((type_of% @st104) ∧ ((type_of% @ze104) ∧ (type_of% @nk105))) ∧ (((type_of% @ag105) ∧ (type_of% @sz105)) ∧ ((type_of% @by105) ∧ (type_of% @un105)))) ∧ (((type_of% @ni105) ∧ ((type_of% @kt105) ∧ (type_of% @bo105))) ∧ (((type_of% @st105) ∧ (type_of% @ze105)) ∧ ((type_of% @nk106) ∧ (type_of% @ag106))))) ∧ ((((type_of% @sz106) ∧ ((type_of% @by106) ∧ (type_of% @un106))) ∧ (((type_of% @ni106) ∧ (type_of% @kt106)) ∧ ((type_of% @bo106) ∧ (type_of% @st106)))) ∧ ((((type_of% @ze106) ∧ (type_of% @nk107)) ∧ ((type_of% @ag107) ∧ (type_of% @sz107))) ∧ (((type_of% @by107) ∧ (type_of% @un107)) ∧ ((type_of% @ni107) ∧ (type_of% @kt107))))))))) ∧ ((((((((type_of% @bo107) ∧ ((type_of% @st107) ∧ (type_of% @ze107))) ∧ (((type_of% @nk108) ∧ (type_of% @ag108)) ∧ ((type_of% @sz108) ∧ (type_of% @by108)))) ∧ (((type_of% @un108) ∧ ((type_of% @ni108) ∧ (type_of% @kt108))) ∧ (((type_of% @bo108) ∧ (type_of% @st108)) ∧ ((type_of% @ze108) ∧ (type_of% @nk109))))) ∧ ((((type_of% @ag109) ∧ ((type_of% @sz109) ∧ (type_of% @by109))) ∧ (((type_of% @un109) ∧ (type_of% @ni109)) ∧ ((type_of% @kt109) ∧ (type_of% @bo109)))) ∧ (((type_of% @st109) ∧ ((type_of% @ze109) ∧ (type_of% @nk110))) ∧ (((type_of% @ag110) ∧ (type_of% @sz110)) ∧ ((type_of% @by110) ∧ (type_of% @un110)))))) ∧ (((((type_of% @ni110) ∧ ((type_of% @kt110) ∧ (type_of% @bo110))) ∧ (((type_of% @st110) ∧ (type_of% @ze110)) ∧ ((type_of% @nk111) ∧ (type_of% @ag111)))) ∧ (((type_of% @sz111) ∧ ((type_of% @by111) ∧ (type_of% @un111))) ∧ (((type_of% @ni111) ∧ (type_of% @zo111)) ∧ ((type_of% @kt111) ∧ (type_of% @bo111))))) ∧ ((((type_of% @st111) ∧ ((type_of% @ze111) ∧ (type_of% @ag112))) ∧ (((type_of% @sz112) ∧ (type_of% @by112)) ∧ ((type_of% @un112) ∧ (type_of% @ni112)))) ∧ (((type_of% @kt112) ∧ ((type_of% @bo112) ∧ (type_of% @st112))) ∧ (((type_of% @ze112) ∧ (type_of% @fi112)) ∧ ((type_of% @fa112_0) ∧ (type_of% @ft112_0))))))) ∧ ((((((type_of% @fa112_1) ∧ ((type_of% @ft112_1) ∧ (type_of% @ag113))) ∧ (((type_of% @sz113) ∧ (type_of% @by113)) ∧ ((type_of% @un113) ∧ (type_of% @ni113)))) ∧ (((type_of% @kt113) ∧ ((type_of% @bo113) ∧ (type_of% @st113))) ∧ (((type_of% @ze113) ∧ (type_of% @fi113)) ∧ ((type_of% @fa113_0) ∧ (type_of% @ft113_0))))) ∧ ((((type_of% @fa113_1) ∧ ((type_of% @ft113_1) ∧ (type_of% @nk114))) ∧ (((type_of% @ag114) ∧ (type_of% @sz114)) ∧ ((type_of% @by114) ∧ (type_of% @un114)))) ∧ (((type_of% @ni114) ∧ ((type_of% @kt114) ∧ (type_of% @bo114))) ∧ (((type_of% @st114) ∧ (type_of% @ze114)) ∧ ((type_of% @nk117) ∧ (type_of% @ag117)))))) ∧ (((((type_of% @sz117) ∧ ((type_of% @by117) ∧ (type_of% @un117))) ∧ (((type_of% @ni117) ∧ (type_of% @kt117)) ∧ ((type_of% @bo117) ∧ (type_of% @st117)))) ∧ (((type_of% @ze117) ∧ ((type_of% @nk118) ∧ (type_of% @ag118))) ∧ (((type_of% @sz118) ∧ (type_of% @by118)) ∧ ((type_of% @un118) ∧ (type_of% @ni118))))) ∧ ((((type_of% @zo118) ∧ ((type_of% @kt118) ∧ (type_of% @bo118))) ∧ (((type_of% @st118) ∧ (type_of% @ze118)) ∧ ((type_of% @nk119) ∧ (type_of% @ag119)))) ∧ (((type_of% @sz119) ∧ ((type_of% @by119) ∧ (type_of% @un119))) ∧ (((type_of% @ni119) ∧ (type_of% @kt119)) ∧ ((type_of% @bo119) ∧ (type_of% @st119)))))))) ∧ (((((((type_of% @ze119) ∧ ((type_of% @ag120) ∧ (type_of% @sz120))) ∧ (((type_of% @by120) ∧ (type_of% @un120)) ∧ ((type_of% @ni120) ∧ (type_of% @zo120)))) ∧ (((type_of% @kt120) ∧ ((type_of% @in120) ∧ (type_of% @bo120))) ∧ (((type_of% @st120) ∧ (type_of% @ze120)) ∧ ((type_of% @nk122) ∧ (type_of% @ag122))))) ∧ ((((type_of% @sz122) ∧ ((type_of% @by122) ∧ (type_of% @un122))) ∧ (((type_of% @ni122) ∧ (type_of% @kt122)) ∧ ((type_of% @bo122) ∧ (type_of% @st122)))) ∧ (((type_of% @ze122) ∧ ((type_of% @nk123) ∧ (type_of% @ag123))) ∧ (((type_of% @sz123) ∧ (type_of% @by123)) ∧ ((type_of% @un123) ∧ (type_of% @ni123)))))) ∧ (((((type_of% @zo123) ∧ ((type_of% @kt123) ∧ (type_of% @bo123))) ∧ (((type_of% @st123) ∧ (type_of% @ze123)) ∧ ((type_of% @nk124) ∧ (type_of% @ag124)))) ∧ (((type_of% @sz124) ∧ ((type_of% @by124) ∧ (type_of% @un124))) ∧ (((type_of% @ni124) ∧ (type_of% @kt124)) ∧ ((type_of% @bo124) ∧ (type_of% @st124))))) ∧ ((((type_of% @ze124) ∧ ((type_of% @nk125) ∧ (type_of% @ag125))) ∧ (((type_of% @sz125) ∧ (type_of% @by125)) ∧ ((type_of% @un125) ∧ (type_of% @ni125)))) ∧ (((type_of% @kt125) ∧ ((type_of% @bo125) ∧ (type_of% @st125))) ∧ (((type_of% @ze125) ∧ (type_of% @nk126)) ∧ ((type_of% @ag126) ∧ (type_of% @sz126))))))) ∧ ((((((type_of% @by126) ∧ ((type_of% @un126) ∧ (type_of% @ni126))) ∧ (((type_of% @kt126) ∧ (type_of% @bo126)) ∧ ((type_of% @st126) ∧ (type_of% @ze126)))) ∧ (((type_of% @nk128) ∧ ((type_of% @ag128) ∧ (type_of% @sz128))) ∧ (((type_of% @by128) ∧ (type_of% @un128)) ∧ ((type_of% @ni128) ∧ (type_of% @kt128))))) ∧ ((((type_of% @bo128) ∧ ((type_of% @st128) ∧ (type_of% @ze128))) ∧ (((type_of% @nk129) ∧ (type_of% @ag129)) ∧ ((type_of% @sz129) ∧ (type_of% @by129)))) ∧ (((type_of% @un129) ∧ ((type_of% @ni129) ∧ (type_of% @kt129))) ∧ (((type_of% @bo129) ∧ (type_of% @st129)) ∧ ((type_of% @ze129) ∧ (type_of% @nk131)))))) ∧ (((((type_of% @ag131) ∧ ((type_of% @sz131) ∧ (type_of% @by131))) ∧ (((type_of% @un131) ∧ (type_of% @ni131)) ∧ ((type_of% @kt131) ∧ (type_of% @bo131)))) ∧ (((type_of% @st131) ∧ ((type_of% @ze131) ∧ (type_of% @nk133))) ∧ (((type_of% @ag133) ∧ (type_of% @sz133)) ∧ ((type_of% @by133) ∧ (type_of% @un133))))) ∧ ((((type_of% @ni133) ∧ ((type_of% @kt133) ∧ (type_of% @bo133))) ∧ (((type_of% @st133) ∧ (type_of% @ze133)) ∧ ((type_of% @ag134) ∧ (type_of% @sz134)))) ∧ ((((type_of% @by134) ∧ (type_of% @un134)) ∧ ((type_of% @ni134) ∧ (type_of% @kt134))) ∧ (((type_of% @bo134) ∧ (type_of% @st134)) ∧ ((type_of% @ze134) ∧ (type_of% @nk135)))))))))) ∧ (((((((((type_of% @ag135) ∧ ((type_of% @sz135) ∧ (type_of% @by135))) ∧ (((type_of% @un135) ∧ (type_of% @ni135)) ∧ ((type_of% @kt135) ∧ (type_of% @bo135)))) ∧ (((type_of% @st135) ∧ ((type_of% @ze135) ∧ (type_of% @nk136))) ∧ (((type_of% @ag136) ∧ (type_of% @sz136)) ∧ ((type_of% @by136) ∧ (type_of% @un136))))) ∧ ((((type_of% @ni136) ∧ ((type_of% @kt136) ∧ (type_of% @bo136))) ∧ (((type_of% @st136) ∧ (type_of% @ze136)) ∧ ((type_of% @nk138) ∧ (type_of% @ag138)))) ∧ (((type_of% @sz138) ∧ ((type_of% @by138) ∧ (type_of% @un138))) ∧ (((type_of% @ni138) ∧ (type_of% @kt138)) ∧ ((type_of% @bo138) ∧ (type_of% @st138)))))) ∧ (((((type_of% @ze138) ∧ ((type_of% @nk140) ∧ (type_of% @ag140))) ∧ (((type_of% @sz140) ∧ (type_of% @by140)) ∧ ((type_of% @un140) ∧ (type_of% @ni140)))) ∧ (((type_of% @kt140) ∧ ((type_of% @bo140) ∧ (type_of% @st140))) ∧ (((type_of% @ze140) ∧ (type_of% @nk141)) ∧ ((type_of% @ag141) ∧ (type_of% @sz141))))) ∧ ((((type_of% @by141) ∧ ((type_of% @un141) ∧ (type_of% @ni141))) ∧ (((type_of% @kt141) ∧ (type_of% @bo141)) ∧ ((type_of% @st141) ∧ (type_of% @ze141)))) ∧ (((type_of% @ag142) ∧ ((type_of% @sz142) ∧ (type_of% @by142))) ∧ (((type_of% @un142) ∧ (type_of% @ni142)) ∧ ((type_of% @kt142) ∧ (type_of% @bo142))))))) ∧ ((((((type_of% @st142) ∧ ((type_of% @ze142) ∧ (type_of% @fi142))) ∧ (((type_of% @fa142_0) ∧ (type_of% @ft142_0)) ∧ ((type_of% @fa142_1) ∧ (type_of% @ft142_1)))) ∧ (((type_of% @fa142_2) ∧ ((type_of% @ft142_2) ∧ (type_of% @ag143))) ∧ (((type_of% @sz143) ∧ (type_of% @by143)) ∧ ((type_of% @un143) ∧ (type_of% @ni143))))) ∧ ((((type_of% @kt143) ∧ ((type_of% @bo143) ∧ (type_of% @st143))) ∧ (((type_of% @ze143) ∧ (type_of% @fi143)) ∧ ((type_of% @fa143_0) ∧ (type_of% @ft143_0)))) ∧ (((type_of% @fa143_1) ∧ ((type_of% @ft143_1) ∧ (type_of% @fa143_2))) ∧ (((type_of% @ft143_2) ∧ (type_of% @nk144)) ∧ ((type_of% @ag144) ∧ (type_of% @sz144)))))) ∧ (((((type_of% @by144) ∧ ((type_of% @un144) ∧ (type_of% @ni144))) ∧ (((type_of% @kt144) ∧ (type_of% @bo144)) ∧ ((type_of% @st144) ∧ (type_of% @ze144)))) ∧ (((type_of% @nk145) ∧ ((type_of% @ag145) ∧ (type_of% @sz145))) ∧ (((type_of% @by145) ∧ (type_of% @un145)) ∧ ((type_of% @ni145) ∧ (type_of% @kt145))))) ∧ ((((type_of% @bo145) ∧ ((type_of% @st145) ∧ (type_of% @ze145))) ∧ (((type_of% @nk148) ∧ (type_of% @ag148)) ∧ ((type_of% @sz148) ∧ (type_of% @by148)))) ∧ (((type_of% @un148) ∧ ((type_of% @ni148) ∧ (type_of% @kt148))) ∧ (((type_of% @bo148) ∧ (type_of% @st148)) ∧ ((type_of% @ze148) ∧ (type_of% @nk149)))))))) ∧ (((((((type_of% @ag149) ∧ ((type_of% @sz149) ∧ (type_of% @by149))) ∧ (((type_of% @un149) ∧ (type_of% @ni149)) ∧ ((type_of% @zo149) ∧ (type_of% @kt149)))) ∧ (((type_of% @bo149) ∧ ((type_of% @st149) ∧ (type_of% @ze149))) ∧ (((type_of% @ag150) ∧ (type_of% @sz150)) ∧ ((type_of% @by150) ∧ (type_of% @un150))))) ∧ ((((type_of% @ni150) ∧ ((type_of% @kt150) ∧ (type_of% @bo150))) ∧ (((type_of% @st150) ∧ (type_of% @ze150)) ∧ ((type_of% @fi150) ∧ (type_of% @fa150_0)))) ∧ (((type_of% @ft150_0) ∧ ((type_of% @ag151) ∧ (type_of% @sz151))) ∧ (((type_of% @by151) ∧ (type_of% @un151)) ∧ ((type_of% @ni151) ∧ (type_of% @kt151)))))) ∧ (((((type_of% @bo151) ∧ ((type_of% @st151) ∧ (type_of% @ze151))) ∧ (((type_of% @fi151) ∧ (type_of% @fa151_0)) ∧ ((type_of% @ft151_0) ∧ (type_of% @ag153)))) ∧ (((type_of% @sz153) ∧ ((type_of% @by153) ∧ (type_of% @un153))) ∧ (((type_of% @ni153) ∧ (type_of% @kt153)) ∧ ((type_of% @bo153) ∧ (type_of% @st153))))) ∧ ((((type_of% @ze153) ∧ ((type_of% @fi153) ∧ (type_of% @fa153_0))) ∧ (((type_of% @ft153_0) ∧ (type_of% @fa153_1)) ∧ ((type_of% @ft153_1) ∧ (type_of% @ag154)))) ∧ (((type_of% @sz154) ∧ ((type_of% @by154) ∧ (type_of% @un154))) ∧ (((type_of% @ni154) ∧ (type_of% @kt154)) ∧ ((type_of% @bo154) ∧ (type_of% @st154))))))) ∧ ((((((type_of% @ze154) ∧ ((type_of% @fi154) ∧ (type_of% @fa154_0))) ∧ (((type_of% @ft154_0) ∧ (type_of% @fa154_1)) ∧ ((type_of% @ft154_1) ∧ (type_of% @ag156)))) ∧ (((type_of% @sz156) ∧ ((type_of% @by156) ∧ (type_of% @un156))) ∧ (((type_of% @ni156) ∧ (type_of% @kt156)) ∧ ((type_of% @bo156) ∧ (type_of% @st156))))) ∧ ((((type_of% @ze156) ∧ ((type_of% @fi156) ∧ (type_of% @fa156_0))) ∧ (((type_of% @ft156_0) ∧ (type_of% @fa156_1)) ∧ ((type_of% @ft156_1) ∧ (type_of% @fa156_2)))) ∧ (((type_of% @ft156_2) ∧ ((type_of% @fa156_3) ∧ (type_of% @ft156_3))) ∧ (((type_of% @ag157) ∧ (type_of% @sz157)) ∧ ((type_of% @by157) ∧ (type_of% @un157)))))) ∧ (((((type_of% @ni157) ∧ ((type_of% @kt157) ∧ (type_of% @bo157))) ∧ (((type_of% @st157) ∧ (type_of% @ze157)) ∧ ((type_of% @fi157) ∧ (type_of% @fa157_0)))) ∧ (((type_of% @ft157_0) ∧ ((type_of% @fa157_1) ∧ (type_of% @ft157_1))) ∧ (((type_of% @fa157_2) ∧ (type_of% @ft157_2)) ∧ ((type_of% @fa157_3) ∧ (type_of% @ft157_3))))) ∧ ((((type_of% @ag159) ∧ ((type_of% @sz159) ∧ (type_of% @by159))) ∧ (((type_of% @un159) ∧ (type_of% @ni159)) ∧ ((type_of% @kt159) ∧ (type_of% @bo159)))) ∧ ((((type_of% @st159) ∧ (type_of% @ze159)) ∧ ((type_of% @fi159) ∧ (type_of% @ft159_0))) ∧ (((type_of% @ag160) ∧ (type_of% @sz160)) ∧ ((type_of% @by160) ∧ (type_of% @un160))))))))) ∧ ((((((((type_of% @ni160) ∧ ((type_of% @kt160) ∧ (type_of% @bo160))) ∧ (((type_of% @st160) ∧ (type_of% @ze160)) ∧ ((type_of% @fi160) ∧ (type_of% @ft160_0)))) ∧ (((type_of% @ag161) ∧ ((type_of% @sz161) ∧ (type_of% @by161))) ∧ (((type_of% @un161) ∧ (type_of% @ni161)) ∧ ((type_of% @zo161) ∧ (type_of% @kt161))))) ∧ ((((type_of% @in161) ∧ ((type_of% @bo161) ∧ (type_of% @st161))) ∧ (((type_of% @ze161) ∧ (type_of% @ag162)) ∧ ((type_of% @sz162) ∧ (type_of% @by162)))) ∧ (((type_of% @un162) ∧ ((type_of% @ni162) ∧ (type_of% @zo162))) ∧ (((type_of% @kt162) ∧ (type_of% @in162)) ∧ ((type_of% @bo162) ∧ (type_of% @st162)))))) ∧ (((((type_of% @ze162) ∧ ((type_of% @nk163) ∧ (type_of% @ag163))) ∧ (((type_of% @sz163) ∧ (type_of% @by163)) ∧ ((type_of% @un163) ∧ (type_of% @ni163)))) ∧ (((type_of% @kt163) ∧ ((type_of% @bo163) ∧ (type_of% @st163))) ∧ (((type_of% @ze163) ∧ (type_of% @ag164)) ∧ ((type_of% @sz164) ∧ (type_of% @by164))))) ∧ ((((type_of% @un164) ∧ ((type_of% @ni164) ∧ (type_of% @zo164))) ∧ (((type_of% @kt164) ∧ (type_of% @in164)) ∧ ((type_of% @bo164) ∧ (type_of% @st164)))) ∧ (((type_of% @ze164) ∧ ((type_of% @ag165) ∧ (type_of% @sz165))) ∧ (((type_of% @by165) ∧ (type_of% @un165)) ∧ ((type_of% @ni165) ∧ (type_of% @zo165))))))) ∧ ((((((type_of% @kt165) ∧ ((type_of% @in165) ∧ (type_of% @bo165))) ∧ (((type_of% @st165) ∧ (type_of% @ze165)) ∧ ((type_of% @ag166) ∧ (type_of% @sz166)))) ∧ (((type_of% @by166) ∧ ((type_of% @un166) ∧ (type_of% @ni166))) ∧ (((type_of% @kt166) ∧ (type_of% @bo166)) ∧ ((type_of% @st166) ∧ (type_of% @ze166))))) ∧ ((((type_of% @fi166) ∧ ((type_of% @fa166_0) ∧ (type_of% @ft166_0))) ∧ (((type_of% @fa166_1) ∧ (type_of% @ft166_1)) ∧ ((type_of% @fa166_2) ∧ (type_of% @ft166_2)))) ∧ (((type_of% @fa166_3) ∧ ((type_of% @ft166_3) ∧ (type_of% @fa166_4))) ∧ (((type_of% @ft166_4) ∧ (type_of% @fa166_5)) ∧ ((type_of% @ft166_5) ∧ (type_of% @fa166_6)))))) ∧ (((((type_of% @ft166_6) ∧ ((type_of% @fa166_7) ∧ (type_of% @ft166_7))) ∧ (((type_of% @fa166_8) ∧ (type_of% @ft166_8)) ∧ ((type_of% @fa166_9) ∧ (type_of% @ft166_9)))) ∧ (((type_of% @fa166_10) ∧ ((type_of% @ft166_10) ∧ (type_of% @ag167))) ∧ (((type_of% @sz167) ∧ (type_of% @by167)) ∧ ((type_of% @un167) ∧ (type_of% @ni167))))) ∧ ((((type_of% @kt167) ∧ ((type_of% @bo167) ∧ (type_of% @st167))) ∧ (((type_of% @ze167) ∧ (type_of% @fi167)) ∧ ((type_of% @fa167_0) ∧ (type_of% @ft167_0)))) ∧ (((type_of% @fa167_1) ∧ ((type_of% @ft167_1) ∧ (type_of% @fa167_2))) ∧ (((type_of% @ft167_2) ∧ (type_of% @fa167_3)) ∧ ((type_of% @ft167_3) ∧ (type_of% @fa167_4)))))))) ∧ (((((((type_of% @ft167_4) ∧ ((type_of% @fa167_5) ∧ (type_of% @ft167_5))) ∧ (((type_of% @fa167_6) ∧ (type_of% @ft167_6)) ∧ ((type_of% @fa167_7) ∧ (type_of% @ft167_7)))) ∧ (((type_of% @fa167_8) ∧ ((type_of% @ft167_8) ∧ (type_of% @fa167_9))) ∧ (((type_of% @ft167_9) ∧ (type_of% @fa167_10)) ∧ ((type_of% @ft167_10) ∧ (type_of% @fo))))) ∧ ((((type_of% @ca3) ∧ ((type_of% @ca4) ∧ (type_of% @ca5))) ∧ (((type_of% @ca6) ∧ (type_of% @ca7)) ∧ ((type_of% @ca8) ∧ (type_of% @ca9)))) ∧ (((type_of% @ca10) ∧ ((type_of% @ca11) ∧ (type_of% @ca12))) ∧ (((type_of% @ca13) ∧ (type_of% @ca14)) ∧ ((type_of% @ca15) ∧ (type_of% @ca16)))))) ∧ (((((type_of% @ca17) ∧ ((type_of% @ca18) ∧ (type_of% @ca19))) ∧ (((type_of% @ca20) ∧ (type_of% @ca21)) ∧ ((type_of% @ca22) ∧ (type_of% @ca23)))) ∧ (((type_of% @ca24) ∧ ((type_of% @ca25) ∧ (type_of% @ca26))) ∧ (((type_of% @ca27) ∧ (type_of% @ca28)) ∧ ((type_of% @ca29) ∧ (type_of% @ca30))))) ∧ ((((type_of% @ca31) ∧ ((type_of% @ca32) ∧ (type_of% @ca33))) ∧ (((type_of% @ca34) ∧ (type_of% @ca35)) ∧ ((type_of% @ca36) ∧ (type_of% @ca37)))) ∧ (((type_of% @ca38) ∧ ((type_of% @ca39) ∧ (type_of% @ca40))) ∧ (((type_of% @ca41) ∧ (type_of% @ca42)) ∧ ((type_of% @ca43) ∧ (type_of% @ca44))))))) ∧ ((((((type_of% @ca45) ∧ ((type_of% @ca46) ∧ (type_of% @ca47))) ∧ (((type_of% @ca48) ∧ (type_of% @ca49)) ∧ ((type_of% @ca50) ∧ (type_of% @ca51)))) ∧ (((type_of% @ca52) ∧ ((type_of% @ca53) ∧ (type_of% @ca55))) ∧ (((type_of% @ca56) ∧ (type_of% @ca57)) ∧ ((type_of% @ca58) ∧ (type_of% @ca59))))) ∧ ((((type_of% @ca60) ∧ ((type_of% @ca61) ∧ (type_of% @ca62))) ∧ (((type_of% @ca63) ∧ (type_of% @ca64)) ∧ ((type_of% @ca65) ∧ (type_of% @ca66)))) ∧ (((type_of% @ca67) ∧ ((type_of% @ca68) ∧ (type_of% @ca69))) ∧ (((type_of% @ca70) ∧ (type_of% @ca71)) ∧ ((type_of% @ca72) ∧ (type_of% @ca73)))))) ∧ (((((type_of% @ca74) ∧ ((type_of% @ca75) ∧ (type_of% @ca76))) ∧ (((type_of% @ca77) ∧ (type_of% @ca78)) ∧ ((type_of% @ca79) ∧ (type_of% @ca80)))) ∧ (((type_of% @ca81) ∧ ((type_of% @ca82) ∧ (type_of% @ca83))) ∧ (((type_of% @ca85) ∧ (type_of% @ca87)) ∧ ((type_of% @ca88) ∧ (type_of% @ca89))))) ∧ ((((type_of% @ca90) ∧ ((type_of% @ca91) ∧ (type_of% @ca92))) ∧ (((type_of% @ca95) ∧ (type_of% @ca96)) ∧ ((type_of% @ca97) ∧ (type_of% @ca98)))) ∧ ((((type_of% @ca99) ∧ (type_of% @ca100)) ∧ ((type_of% @ca101) ∧ (type_of% @ca102))) ∧ (((type_of% @ca103) ∧ (type_of% @ca104)) ∧ ((type_of% @ca105) ∧ (type_of% @ca106))))))))))) := ⟨⟨⟨⟨⟨⟨⟨⟨⟨⟨@nk1, ⟨@ag1, @sz1⟩⟩, ⟨⟨@by1, @un1⟩, ⟨@ni1, @kt1⟩⟩⟩, ⟨⟨@bo1, ⟨@st1, @ze1⟩⟩, ⟨⟨@ag2, @sz2⟩, ⟨@by2, @un2⟩⟩⟩⟩, ⟨⟨⟨@ni2, ⟨@zo2, @kt2⟩⟩, ⟨⟨@in2, @bo2⟩, ⟨@st2, @ze2⟩⟩⟩, ⟨⟨@ag3, ⟨@sz3, @by3⟩⟩, ⟨⟨@un3, @ni3⟩, ⟨@zo3, @kt3⟩⟩⟩⟩⟩, ⟨⟨⟨⟨@in3, ⟨@bo3, @st3⟩⟩, ⟨⟨@ze3, @ag4⟩, ⟨@sz4, @by4⟩⟩⟩, ⟨⟨@un4, ⟨@ni4, @zo4⟩⟩, ⟨⟨@kt4, @bo4⟩, ⟨@st4, @ze4⟩⟩⟩⟩, ⟨⟨⟨@ag5, ⟨@sz5, @by5⟩⟩, ⟨⟨@un5, @ni5⟩, ⟨@zo5, @kt5⟩⟩⟩, ⟨⟨@in5, ⟨@bo5, @st5⟩⟩, ⟨⟨@ze5, @ag6⟩, ⟨@sz6, @by6⟩⟩⟩⟩⟩⟩, ⟨⟨⟨⟨⟨@un6, ⟨@ni6, @zo6⟩⟩, ⟨⟨@kt6, @in6⟩, ⟨@bo6, @st6⟩⟩⟩, ⟨⟨@ze6, ⟨@ag7, @sz7⟩⟩, ⟨⟨@by7, @un7⟩, ⟨@ni7, @kt7⟩⟩⟩⟩, ⟨⟨⟨@bo7, ⟨@st7, @ze7⟩⟩, ⟨⟨@fi7, @fa7_0⟩, ⟨@ft7_0, @fa7_1⟩⟩⟩, ⟨⟨@ft7_1, ⟨@fa7_2, @ft7_2⟩⟩, ⟨⟨@fa7_3, @ft7_3⟩, ⟨@ag8, @sz8⟩⟩⟩⟩⟩, ⟨⟨⟨⟨@by8, ⟨@un8, @ni8⟩⟩, ⟨⟨@kt8, @bo8⟩, ⟨@st8, @ze8⟩⟩⟩, ⟨⟨@fi8, ⟨@fa8_0, @ft8_0⟩⟩, ⟨⟨@fa8_1, @ft8_1⟩, ⟨@fa8_2, @ft8_2⟩⟩⟩⟩, ⟨⟨⟨@fa8_3, ⟨@ft8_3, @ag9⟩⟩, ⟨⟨@sz9, @by9⟩, ⟨@un9, @ni9⟩⟩⟩, ⟨⟨@zo9, ⟨@kt9, @bo9⟩⟩, ⟨⟨@st9, @ze9⟩, ⟨@ag10, @sz10⟩⟩⟩⟩⟩⟩⟩, ⟨⟨⟨⟨⟨⟨@by10, ⟨@un10, @ni10⟩⟩, ⟨⟨@zo10, @kt10⟩, ⟨@bo10, @st10⟩⟩⟩, ⟨⟨@ze10, ⟨@ag11, @sz11⟩⟩, ⟨⟨@by11, @un11⟩, ⟨@ni11, @zo11⟩⟩⟩⟩, ⟨⟨⟨@kt11, ⟨@bo11, @st11⟩⟩, ⟨⟨@ze11, @ag12⟩, ⟨@sz12, @by12⟩⟩⟩, ⟨⟨@un12, ⟨@ni12, @zo12⟩⟩, ⟨⟨@kt12, @in12⟩, ⟨@bo12, @st12⟩⟩⟩⟩⟩, ⟨⟨⟨⟨@ze12, ⟨@ag13, @sz13⟩⟩, ⟨⟨@by13, @un13⟩, ⟨@ni13, @kt13⟩⟩⟩, ⟨⟨@bo13, ⟨@st13, @ze13⟩⟩, ⟨⟨@fi13, @fa13_0⟩, ⟨@ft13_0, @fa13_1⟩⟩⟩⟩, ⟨⟨⟨@ft13_1, ⟨@ag14, @sz14⟩⟩, ⟨⟨@by14, @un14⟩, ⟨@ni14, @kt14⟩⟩⟩, ⟨⟨@bo14, ⟨@st14, @ze14⟩⟩, ⟨⟨@fi14, @fa14_0⟩, ⟨@ft14_0, @fa14_1⟩⟩⟩⟩⟩⟩, ⟨⟨⟨⟨⟨@ft14_1, ⟨@nk15, @ag15⟩⟩, ⟨⟨@sz15, @by15⟩, ⟨@un15, @ni15⟩⟩⟩, ⟨⟨@zo15, ⟨@kt15, @bo15⟩⟩, ⟨⟨@st15, @ze15⟩, ⟨@nk16, @ag16⟩⟩⟩⟩, ⟨⟨⟨@sz16, ⟨@by16, @un16⟩⟩, ⟨⟨@ni16, @zo16⟩, ⟨@kt16, @bo16⟩⟩⟩, ⟨⟨@st16, ⟨@ze16, @nk17⟩⟩, ⟨⟨@ag17, @sz17⟩, ⟨@by17, @un17⟩⟩⟩⟩⟩, ⟨⟨⟨⟨@ni17, ⟨@zo17, @kt17⟩⟩, ⟨⟨@bo17, @st17⟩, ⟨@ze17, @ag18⟩⟩⟩, ⟨⟨@sz18, ⟨@by18, @un18⟩⟩, ⟨⟨@ni18, @kt18⟩, ⟨@bo18, @st18⟩⟩⟩⟩, ⟨⟨⟨@ze18, ⟨@fi18, @fa18_0⟩⟩, ⟨⟨@ft18_0, @ag19⟩, ⟨@sz19, @by19⟩⟩⟩, ⟨⟨⟨@un19, @ni19⟩, ⟨@kt19, @bo19⟩⟩, ⟨⟨@st19, @ze19⟩, ⟨@fi19, @fa19_0⟩⟩⟩⟩⟩⟩⟩⟩, ⟨⟨⟨⟨⟨⟨⟨@ft19_0, ⟨@nk20, @ag20⟩⟩, ⟨⟨@sz20, @by20⟩, ⟨@un20, @ni20⟩⟩⟩, ⟨⟨@kt20, ⟨@bo20, @st20⟩⟩, ⟨⟨@ze20, @ag21⟩, ⟨@sz21, @by21⟩⟩⟩⟩, ⟨⟨⟨@un21, ⟨@ni21, @zo21⟩⟩, ⟨⟨@kt21, @in21⟩, ⟨@bo21, @st21⟩⟩⟩, ⟨⟨@ze21, ⟨@nk22, @ag22⟩⟩, ⟨⟨@sz22, @by22⟩, ⟨@un22, @ni22⟩⟩⟩⟩⟩, ⟨⟨⟨⟨@zo22, ⟨@ke22, @kt22⟩⟩, ⟨⟨@el22, @bo22⟩, ⟨@st22, @ze22⟩⟩⟩, ⟨⟨@ag23, ⟨@sz23, @by23⟩⟩, ⟨⟨@un23, @ni23⟩, ⟨@zo23, @kt23⟩⟩⟩⟩, ⟨⟨⟨@in23, ⟨@bo23, @st23⟩⟩, ⟨⟨@ze23, @nk25⟩, ⟨@ag25, @sz25⟩⟩⟩, ⟨⟨@by25, ⟨@un25, @ni25⟩⟩, ⟨⟨@kt25, @bo25⟩, ⟨@st25, @ze25⟩⟩⟩⟩⟩⟩, ⟨⟨⟨⟨⟨@nk26, ⟨@ag26, @sz26⟩⟩, ⟨⟨@by26, @un26⟩, ⟨@ni26, @kt26⟩⟩⟩, ⟨⟨@bo26, ⟨@st26, @ze26⟩⟩, ⟨⟨@nk27, @ag27⟩, ⟨@sz27, @by27⟩⟩⟩⟩, ⟨⟨⟨@un27, ⟨@ni27, @kt27⟩⟩, ⟨⟨@bo27, @st27⟩, ⟨@ze27, @nk29⟩⟩⟩, ⟨⟨@ag29, ⟨@sz29, @by29⟩⟩, ⟨⟨@un29, @ni29⟩, ⟨@kt29, @bo29⟩⟩⟩⟩⟩, ⟨⟨⟨⟨@st29, ⟨@ze29, @nk30⟩⟩, ⟨⟨@ag30, @sz30⟩, ⟨@by30, @un30⟩⟩⟩, ⟨⟨@ni30, ⟨@kt30, @bo30⟩⟩, ⟨⟨@st30, @ze30⟩, ⟨@nk31, @ag31⟩⟩⟩⟩, ⟨⟨⟨@sz31, ⟨@by31, @un31⟩⟩, ⟨⟨@ni31, @zo31⟩, ⟨@ke31, @kt31⟩⟩⟩, ⟨⟨@el31, ⟨@bo31, @st31⟩⟩, ⟨⟨@ze31, @nk32⟩, ⟨@ag32, @sz32⟩⟩⟩⟩⟩⟩⟩, ⟨⟨⟨⟨⟨⟨@by32, ⟨@un32, @ni32⟩⟩, ⟨⟨@zo32, @ke32⟩, ⟨@kt32, @el32⟩⟩⟩, ⟨⟨@bo32, ⟨@st32, @ze32⟩⟩, ⟨⟨@ag33, @sz33⟩, ⟨@by33, @un33⟩⟩⟩⟩, ⟨⟨⟨@ni33, ⟨@kt33, @bo33⟩⟩, ⟨⟨@st33, @ze33⟩, ⟨@fi33, @fa33_0⟩⟩⟩, ⟨⟨@ft33_0, ⟨@fa33_1, @ft33_1⟩⟩, ⟨⟨@fa33_2, @ft33_2⟩, ⟨@fa33_3, @ft33_3⟩⟩⟩⟩⟩, ⟨⟨⟨⟨@ag34, ⟨@sz34, @by34⟩⟩, ⟨⟨@un34, @ni34⟩, ⟨@kt34, @bo34⟩⟩⟩, ⟨⟨@st34, ⟨@ze34, @fi34⟩⟩, ⟨⟨@fa34_0, @ft34_0⟩, ⟨@fa34_1, @ft34_1⟩⟩⟩⟩, ⟨⟨⟨@fa34_2, ⟨@ft34_2, @fa34_3⟩⟩, ⟨⟨@ft34_3, @nk36⟩, ⟨@ag36, @sz36⟩⟩⟩, ⟨⟨@by36, ⟨@un36, @ni36⟩⟩, ⟨⟨@kt36, @bo36⟩, ⟨@st36, @ze36⟩⟩⟩⟩⟩⟩, ⟨⟨⟨⟨⟨@ag37, ⟨@sz37, @by37⟩⟩, ⟨⟨@un37, @ni37⟩, ⟨@kt37, @bo37⟩⟩⟩, ⟨⟨@st37, ⟨@ze37, @fi37⟩⟩, ⟨⟨@fa37_0, @ft37_0⟩, ⟨@fa37_1, @ft37_1⟩⟩⟩⟩, ⟨⟨⟨@ag38, ⟨@sz38, @by38⟩⟩, ⟨⟨@un38, @ni38⟩, ⟨@kt38, @bo38⟩⟩⟩, ⟨⟨@st38, ⟨@ze38, @eq38⟩⟩, ⟨⟨@fi38, @fa38_0⟩, ⟨@ft38_0, @fa38_1⟩⟩⟩⟩⟩, ⟨⟨⟨⟨@ft38_1, ⟨@nk40, @ag40⟩⟩, ⟨⟨@sz40, @by40⟩, ⟨@un40, @ni40⟩⟩⟩, ⟨⟨@kt40, ⟨@bo40, @st40⟩⟩, ⟨⟨@ze40, @nk41⟩, ⟨@ag41, @sz41⟩⟩⟩⟩, ⟨⟨⟨@by41, ⟨@un41, @ni41⟩⟩, ⟨⟨@kt41, @bo41⟩, ⟨@st41, @ze41⟩⟩⟩, ⟨⟨⟨@nk42, @ag42⟩, ⟨@sz42, @by42⟩⟩, ⟨⟨@un42, @ni42⟩, ⟨@kt42, @bo42⟩⟩⟩⟩⟩⟩⟩⟩⟩, ⟨⟨⟨⟨⟨⟨⟨⟨@st42, ⟨@ze42, @nk43⟩⟩, ⟨⟨@ag43, @sz43⟩, ⟨@by43, @un43⟩⟩⟩, ⟨⟨@ni43, ⟨@kt43, @bo43⟩⟩, ⟨⟨@st43, @ze43⟩, ⟨@ag44, @sz44⟩⟩⟩⟩, ⟨⟨⟨@by44, ⟨@un44, @ni44⟩⟩, ⟨⟨@kt44, @bo44⟩, ⟨@st44, @ze44⟩⟩⟩, ⟨⟨@fi44, ⟨@fa44_0, @ft44_0⟩⟩, ⟨⟨@fa44_1, @ft44_1⟩, ⟨@fa44_2, @ft44_2⟩⟩⟩⟩⟩, ⟨⟨⟨⟨@ag45, ⟨@sz45, @by45⟩⟩, ⟨⟨@un45, @ni45⟩, ⟨@kt45, @bo45⟩⟩⟩, ⟨⟨@st45, ⟨@ze45, @eq45⟩⟩, ⟨⟨@fi45, @fa45_0⟩, ⟨@ft45_0, @fa45_1⟩⟩⟩⟩, ⟨⟨⟨@ft45_1, ⟨@fa45_2, @ft45_2⟩⟩, ⟨⟨@nk46, @ag46⟩, ⟨@sz46, @by46⟩⟩⟩, ⟨⟨@un46, ⟨@ni46, @zo46⟩⟩, ⟨⟨@ke46, @kt46⟩, ⟨@el46, @bo46⟩⟩⟩⟩⟩⟩, ⟨⟨⟨⟨⟨@st46, ⟨@ze46, @ag47⟩⟩, ⟨⟨@sz47, @by47⟩, ⟨@un47, @ni47⟩⟩⟩, ⟨⟨@kt47, ⟨@bo47, @st47⟩⟩, ⟨⟨@ze47, @fi47⟩, ⟨@fa47_0, @ft47_0⟩⟩⟩⟩, ⟨⟨⟨@fa47_1, ⟨@ft47_1, @fa47_2⟩⟩, ⟨⟨@ft47_2, @fa47_3⟩, ⟨@ft47_3, @fa47_4⟩⟩⟩, ⟨⟨@ft47_4, ⟨@fa47_5, @ft47_5⟩⟩, ⟨⟨@ag48, @sz48⟩, ⟨@by48, @un48⟩⟩⟩⟩⟩, ⟨⟨⟨⟨@ni48, ⟨@kt48, @bo48⟩⟩, ⟨⟨@st48, @ze48⟩, ⟨@fi48, @fa48_0⟩⟩⟩, ⟨⟨@ft48_0, ⟨@fa48_1, @ft48_1⟩⟩, ⟨⟨@fa48_2, @ft48_2⟩, ⟨@fa48_3, @ft48_3⟩⟩⟩⟩, ⟨⟨⟨@fa48_4, ⟨@ft48_4, @fa48_5⟩⟩, ⟨⟨@ft48_5, @nk49⟩, ⟨@ag49, @sz49⟩⟩⟩, ⟨⟨@by49, ⟨@un49, @ni49⟩⟩, ⟨⟨@kt49, @bo49⟩, ⟨@st49, @ze49⟩⟩⟩⟩⟩⟩⟩, ⟨⟨⟨⟨⟨⟨@nk50, ⟨@ag50, @sz50⟩⟩, ⟨⟨@by50, @un50⟩, ⟨@ni50, @kt50⟩⟩⟩, ⟨⟨@bo50, ⟨@st50, @ze50⟩⟩, ⟨⟨@nk52, @ag52⟩, ⟨@sz52, @by52⟩⟩⟩⟩, ⟨⟨⟨@un52, ⟨@ni52, @kt52⟩⟩, ⟨⟨@bo52, @st52⟩, ⟨@ze52, @nk53⟩⟩⟩, ⟨⟨@ag53, ⟨@sz53, @by53⟩⟩, ⟨⟨@un53, @ni53⟩, ⟨@zo53, @ke53⟩⟩⟩⟩⟩, ⟨⟨⟨⟨@kt53, ⟨@el53, @bo53⟩⟩, ⟨⟨@st53, @ze53⟩, ⟨@nk54, @ag54⟩⟩⟩, ⟨⟨@sz54, ⟨@by54, @un54⟩⟩, ⟨⟨@ni54, @kt54⟩, ⟨@bo54, @st54⟩⟩⟩⟩, ⟨⟨⟨@ze54, ⟨@nk55, @ag55⟩⟩, ⟨⟨@sz55, @by55⟩, ⟨@un55, @ni55⟩⟩⟩, ⟨⟨@kt55, ⟨@bo55, @st55⟩⟩, ⟨⟨@ze55, @nk56⟩, ⟨@ag56, @sz56⟩⟩⟩⟩⟩⟩, ⟨⟨⟨⟨⟨@by56, ⟨@un56, @ni56⟩⟩, ⟨⟨@kt56, @bo56⟩, ⟨@st56, @ze56⟩⟩⟩, ⟨⟨@nk57, ⟨@ag57, @sz57⟩⟩, ⟨⟨@by57, @un57⟩, ⟨@ni57, @kt57⟩⟩⟩⟩, ⟨⟨⟨@bo57, ⟨@st57, @ze57⟩⟩, ⟨⟨@nk58, @ag58⟩, ⟨@sz58, @by58⟩⟩⟩, ⟨⟨@un58, ⟨@ni58, @kt58⟩⟩, ⟨⟨@bo58, @st58⟩, ⟨@ze58, @nk59⟩⟩⟩⟩⟩, ⟨⟨⟨⟨@ag59, ⟨@sz59, @by59⟩⟩, ⟨⟨@un59, @ni59⟩, ⟨@zo59, @ke59⟩⟩⟩, ⟨⟨@kt59, ⟨@el59, @bo59⟩⟩, ⟨⟨@st59, @ze59⟩, ⟨@nk61, @ag61⟩⟩⟩⟩, ⟨⟨⟨@sz61, ⟨@by61, @un61⟩⟩, ⟨⟨@ni61, @kt61⟩, ⟨@bo61, @st61⟩⟩⟩, ⟨⟨⟨@ze61, @nk63⟩, ⟨@ag63, @sz63⟩⟩, ⟨⟨@by63, @un63⟩, ⟨@ni63, @kt63⟩⟩⟩⟩⟩⟩⟩⟩, ⟨⟨⟨⟨⟨⟨⟨@bo63, ⟨@st63, @ze63⟩⟩, ⟨⟨@nk65, @ag65⟩, ⟨@sz65, @by65⟩⟩⟩, ⟨⟨@un65, ⟨@ni65, @kt65⟩⟩, ⟨⟨@bo65, @st65⟩, ⟨@ze65, @nk66⟩⟩⟩⟩, ⟨⟨⟨@ag66, ⟨@sz66, @by66⟩⟩, ⟨⟨@un66, @ni66⟩, ⟨@kt66, @bo66⟩⟩⟩, ⟨⟨@st66, ⟨@ze66, @nk67⟩⟩, ⟨⟨@ag67, @sz67⟩, ⟨@by67, @un67⟩⟩⟩⟩⟩, ⟨⟨⟨⟨@ni67, ⟨@kt67, @bo67⟩⟩, ⟨⟨@st67, @ze67⟩, ⟨@nk68, @ag68⟩⟩⟩, ⟨⟨@sz68, ⟨@by68, @un68⟩⟩, ⟨⟨@ni68, @kt68⟩, ⟨@bo68, @st68⟩⟩⟩⟩, ⟨⟨⟨@ze68, ⟨@nk69, @ag69⟩⟩, ⟨⟨@sz69, @by69⟩, ⟨@un69, @ni69⟩⟩⟩, ⟨⟨@kt69, ⟨@bo69, @st69⟩⟩, ⟨⟨@ze69, @nk70⟩, ⟨@ag70, @sz70⟩⟩⟩⟩⟩⟩, ⟨⟨⟨⟨⟨@by70, ⟨@un70, @ni70⟩⟩, ⟨⟨@kt70, @bo70⟩, ⟨@st70, @ze70⟩⟩⟩, ⟨⟨@nk71, ⟨@ag71, @sz71⟩⟩, ⟨⟨@by71, @un71⟩, ⟨@ni71, @kt71⟩⟩⟩⟩, ⟨⟨⟨@bo71, ⟨@st71, @ze71⟩⟩, ⟨⟨@nk72, @ag72⟩, ⟨@sz72, @by72⟩⟩⟩, ⟨⟨@un72, ⟨@ni72, @kt72⟩⟩, ⟨⟨@bo72, @st72⟩, ⟨@ze72, @nk73⟩⟩⟩⟩⟩, ⟨⟨⟨⟨@ag73, ⟨@sz73, @by73⟩⟩, ⟨⟨@un73, @ni73⟩, ⟨@kt73, @bo73⟩⟩⟩, ⟨⟨@st73, ⟨@ze73, @ag74⟩⟩, ⟨⟨@sz74, @by74⟩, ⟨@un74, @ni74⟩⟩⟩⟩, ⟨⟨⟨@zo74, ⟨@kt74, @in74⟩⟩, ⟨⟨@bo74, @st74⟩, ⟨@ze74, @ag75⟩⟩⟩, ⟨⟨@sz75, ⟨@by75, @un75⟩⟩, ⟨⟨@ni75, @zo75⟩, ⟨@kt75, @in75⟩⟩⟩⟩⟩⟩⟩, ⟨⟨⟨⟨⟨⟨@bo75, ⟨@st75, @ze75⟩⟩, ⟨⟨@nk76, @ag76⟩, ⟨@sz76, @by76⟩⟩⟩, ⟨⟨@un76, ⟨@ni76, @kt76⟩⟩, ⟨⟨@bo76, @st76⟩, ⟨@ze76, @nk77⟩⟩⟩⟩, ⟨⟨⟨@ag77, ⟨@sz77, @by77⟩⟩, ⟨⟨@un77, @ni77⟩, ⟨@kt77, @bo77⟩⟩⟩, ⟨⟨@st77, ⟨@ze77, @nk78⟩⟩, ⟨⟨@ag78, @sz78⟩, ⟨@by78, @un78⟩⟩⟩⟩⟩, ⟨⟨⟨⟨@ni78, ⟨@kt78, @bo78⟩⟩, ⟨⟨@st78, @ze78⟩, ⟨@nk79, @ag79⟩⟩⟩, ⟨⟨@sz79, ⟨@by79, @un79⟩⟩, ⟨⟨@ni79, @kt79⟩, ⟨@bo79, @st79⟩⟩⟩⟩, ⟨⟨⟨@ze79, ⟨@nk80, @ag80⟩⟩, ⟨⟨@sz80, @by80⟩, ⟨@un80, @ni80⟩⟩⟩, ⟨⟨@kt80, ⟨@bo80, @st80⟩⟩, ⟨⟨@ze80, @nk81⟩, ⟨@ag81, @sz81⟩⟩⟩⟩⟩⟩, ⟨⟨⟨⟨⟨@by81, ⟨@un81, @ni81⟩⟩, ⟨⟨@kt81, @bo81⟩, ⟨@st81, @ze81⟩⟩⟩, ⟨⟨@nk83, ⟨@ag83, @sz83⟩⟩, ⟨⟨@by83, @un83⟩, ⟨@ni83, @kt83⟩⟩⟩⟩, ⟨⟨⟨@bo83, ⟨@st83, @ze83⟩⟩, ⟨⟨@nk84, @ag84⟩, ⟨@sz84, @by84⟩⟩⟩, ⟨⟨@un84, ⟨@ni84, @kt84⟩⟩, ⟨⟨@bo84, @st84⟩, ⟨@ze84, @nk85⟩⟩⟩⟩⟩, ⟨⟨⟨⟨@ag85, ⟨@sz85, @by85⟩⟩, ⟨⟨@un85, @ni85⟩, ⟨@kt85, @bo85⟩⟩⟩, ⟨⟨@st85, ⟨@ze85, @nk86⟩⟩, ⟨⟨@ag86, @sz86⟩, ⟨@by86, @un86⟩⟩⟩⟩, ⟨⟨⟨@ni86, ⟨@kt86, @bo86⟩⟩, ⟨⟨@st86, @ze86⟩, ⟨@nk87, @ag87⟩⟩⟩, ⟨⟨⟨@sz87, @by87⟩, ⟨@un87, @ni87⟩⟩, ⟨⟨@kt87, @bo87⟩, ⟨@st87, @ze87⟩⟩⟩⟩⟩⟩⟩⟩⟩⟩, ⟨⟨⟨⟨⟨⟨⟨⟨⟨@nk88, ⟨@ag88, @sz88⟩⟩, ⟨⟨@by88, @un88⟩, ⟨@ni88, @kt88⟩⟩⟩, ⟨⟨@bo88, ⟨@st88, @ze88⟩⟩, ⟨⟨@nk89, @ag89⟩, ⟨@sz89, @by89⟩⟩⟩⟩, ⟨⟨⟨@un89, ⟨@ni89, @kt89⟩⟩, ⟨⟨@bo89, @st89⟩, ⟨@ze89, @nk90⟩⟩⟩, ⟨⟨@ag90, ⟨@sz90, @by90⟩⟩, ⟨⟨@un90, @ni90⟩, ⟨@kt90, @bo90⟩⟩⟩⟩⟩, ⟨⟨⟨⟨@st90, ⟨@ze90, @nk92⟩⟩, ⟨⟨@ag92, @sz92⟩, ⟨@by92, @un92⟩⟩⟩, ⟨⟨@ni92, ⟨@kt92, @bo92⟩⟩, ⟨⟨@st92, @ze92⟩, ⟨@nk93, @ag93⟩⟩⟩⟩, ⟨⟨⟨@sz93, ⟨@by93, @un93⟩⟩, ⟨⟨@ni93, @kt93⟩, ⟨@bo93, @st93⟩⟩⟩, ⟨⟨@ze93, ⟨@ag94, @sz94⟩⟩, ⟨⟨@by94, @un94⟩, ⟨@ni94, @kt94⟩⟩⟩⟩⟩⟩, ⟨⟨⟨⟨⟨@bo94, ⟨@st94, @ze94⟩⟩, ⟨⟨@fi94, @fa94_0⟩, ⟨@ft94_0, @fa94_1⟩⟩⟩, ⟨⟨@ft94_1, ⟨@fa94_2, @ft94_2⟩⟩, ⟨⟨@fa94_3, @ft94_3⟩, ⟨@fa94_4, @ft94_4⟩⟩⟩⟩, ⟨⟨⟨@fa94_5, ⟨@ft94_5, @ag95⟩⟩, ⟨⟨@sz95, @by95⟩, ⟨@un95, @ni95⟩⟩⟩, ⟨⟨@kt95, ⟨@bo95, @st95⟩⟩, ⟨⟨@ze95, @eq95⟩, ⟨@fi95, @fa95_0⟩⟩⟩⟩⟩, ⟨⟨⟨⟨@ft95_0, ⟨@fa95_1, @ft95_1⟩⟩, ⟨⟨@fa95_2, @ft95_2⟩, ⟨@fa95_3, @ft95_3⟩⟩⟩, ⟨⟨@fa95_4, ⟨@ft95_4, @fa95_5⟩⟩, ⟨⟨@ft95_5, @nk96⟩, ⟨@ag96, @sz96⟩⟩⟩⟩, ⟨⟨⟨@by96, ⟨@un96, @ni96⟩⟩, ⟨⟨@zo96, @ke96⟩, ⟨@kt96, @el96⟩⟩⟩, ⟨⟨@bo96, ⟨@st96, @ze96⟩⟩, ⟨⟨@nk97, @ag97⟩, ⟨@sz97, @by97⟩⟩⟩⟩⟩⟩⟩, ⟨⟨⟨⟨⟨⟨@un97, ⟨@ni97, @kt97⟩⟩, ⟨⟨@bo97, @st97⟩, ⟨@ze97, @nk98⟩⟩⟩, ⟨⟨@ag98, ⟨@sz98, @by98⟩⟩, ⟨⟨@un98, @ni98⟩, ⟨@kt98, @bo98⟩⟩⟩⟩, ⟨⟨⟨@st98, ⟨@ze98, @ag99⟩⟩, ⟨⟨@sz99, @by99⟩, ⟨@un99, @ni99⟩⟩⟩, ⟨⟨@zo99, ⟨@kt99, @in99⟩⟩, ⟨⟨@bo99, @st99⟩, ⟨@ze99, @nk100⟩⟩⟩⟩⟩, ⟨⟨⟨⟨@ag100, ⟨@sz100, @by100⟩⟩, ⟨⟨@un100, @ni100⟩, ⟨@kt100, @bo100⟩⟩⟩, ⟨⟨@st100, ⟨@ze100, @nk101⟩⟩, ⟨⟨@ag101, @sz101⟩, ⟨@by101, @un101⟩⟩⟩⟩, ⟨⟨⟨@ni101, ⟨@zo101, @kt101⟩⟩, ⟨⟨@bo101, @st101⟩, ⟨@ze101, @ag102⟩⟩⟩, ⟨⟨@sz102, ⟨@by102, @un102⟩⟩, ⟨⟨@ni102, @kt102⟩, ⟨@bo102, @st102⟩⟩⟩⟩⟩⟩, ⟨⟨⟨⟨⟨@ze102, ⟨@fi102, @fa102_0⟩⟩, ⟨⟨@ft102_0, @fa102_1⟩, ⟨@ft102_1, @ag103⟩⟩⟩, ⟨⟨@sz103, ⟨@by103, @un103⟩⟩, ⟨⟨@ni103, @kt103⟩, ⟨@bo103, @st103⟩⟩⟩⟩, ⟨⟨⟨@ze103, ⟨@fi103, @fa103_0⟩⟩, ⟨⟨@ft103_0, @fa103_1⟩, ⟨@ft103_1, @nk104⟩⟩⟩, ⟨⟨@ag104, ⟨@sz104, @by104⟩⟩, ⟨⟨@un104, @ni104⟩, ⟨@kt104, @bo104⟩⟩⟩⟩⟩, ⟨⟨⟨⟨@st104, ⟨@ze104, @nk105⟩⟩, ⟨⟨@ag105, @sz105⟩, ⟨@by105, @un105⟩⟩⟩, ⟨⟨@ni105, ⟨@kt105, @bo105⟩⟩, ⟨⟨@st105, @ze105⟩, ⟨@nk106, @ag106⟩⟩⟩⟩, ⟨⟨⟨@sz106, ⟨@by106, @un106⟩⟩, ⟨⟨@ni106, @kt106⟩, ⟨@bo106, @st106⟩⟩⟩, ⟨⟨⟨@ze106, @nk107⟩, ⟨@ag107, @sz107⟩⟩, ⟨⟨@by107, @un107⟩, ⟨@ni107, @kt107⟩⟩⟩⟩⟩⟩⟩⟩, ⟨⟨⟨⟨⟨⟨⟨@bo107, ⟨@st107, @ze107⟩⟩, ⟨⟨@nk108, @ag108⟩, ⟨@sz108, @by108⟩⟩⟩, ⟨⟨@un108, ⟨@ni108, @kt108⟩⟩, ⟨⟨@bo108, @st108⟩, ⟨@ze108, @nk109⟩⟩⟩⟩, ⟨⟨⟨@ag109, ⟨@sz109, @by109⟩⟩, ⟨⟨@un109, @ni109⟩, ⟨@kt109, @bo109⟩⟩⟩, ⟨⟨@st109, ⟨@ze109, @nk110⟩⟩, ⟨⟨@ag110, @sz110⟩, ⟨@by110, @un110⟩⟩⟩⟩⟩, ⟨⟨⟨⟨@ni110, ⟨@kt110, @bo110⟩⟩, ⟨⟨@st110, @ze110⟩, ⟨@nk111, @ag111⟩⟩⟩, ⟨⟨@sz111, ⟨@by111, @un111⟩⟩, ⟨⟨@ni111, @zo111⟩, ⟨@kt111, @bo111⟩⟩⟩⟩, ⟨⟨⟨@st111, ⟨@ze111, @ag112⟩⟩, ⟨⟨@sz112, @by112⟩, ⟨@un112, @ni112⟩⟩⟩, ⟨⟨@kt112, ⟨@bo112, @st112⟩⟩, ⟨⟨@ze112, @fi112⟩, ⟨@fa112_0, @ft112_0⟩⟩⟩⟩⟩⟩, ⟨⟨⟨⟨⟨@fa112_1, ⟨@ft112_1, @ag113⟩⟩, ⟨⟨@sz113, @by113⟩, ⟨@un113, @ni113⟩⟩⟩, ⟨⟨@kt113, ⟨@bo113, @st113⟩⟩, ⟨⟨@ze113, @fi113⟩, ⟨@fa113_0, @ft113_0⟩⟩⟩⟩, ⟨⟨⟨@fa113_1, ⟨@ft113_1, @nk114⟩⟩, ⟨⟨@ag114, @sz114⟩, ⟨@by114, @un114⟩⟩⟩, ⟨⟨@ni114, ⟨@kt114, @bo114⟩⟩, ⟨⟨@st114, @ze114⟩, ⟨@nk117, @ag117⟩⟩⟩⟩⟩, ⟨⟨⟨⟨@sz117, ⟨@by117, @un117⟩⟩, ⟨⟨@ni117, @kt117⟩, ⟨@bo117, @st117⟩⟩⟩, ⟨⟨@ze117, ⟨@nk118, @ag118⟩⟩, ⟨⟨@sz118, @by118⟩, ⟨@un118, @ni118⟩⟩⟩⟩, ⟨⟨⟨@zo118, ⟨@kt118, @bo118⟩⟩, ⟨⟨@st118, @ze118⟩, ⟨@nk119, @ag119⟩⟩⟩, ⟨⟨@sz119, ⟨@by119, @un119⟩⟩, ⟨⟨@ni119, @kt119⟩, ⟨@bo119, @st119⟩⟩⟩⟩⟩⟩⟩, ⟨⟨⟨⟨⟨⟨@ze119, ⟨@ag120, @sz120⟩⟩, ⟨⟨@by120, @un120⟩, ⟨@ni120, @zo120⟩⟩⟩, ⟨⟨@kt120, ⟨@in120, @bo120⟩⟩, ⟨⟨@st120, @ze120⟩, ⟨@nk122, @ag122⟩⟩⟩⟩, ⟨⟨⟨@sz122, ⟨@by122, @un122⟩⟩, ⟨⟨@ni122, @kt122⟩, ⟨@bo122, @st122⟩⟩⟩, ⟨⟨@ze122, ⟨@nk123, @ag123⟩⟩, ⟨⟨@sz123, @by123⟩, ⟨@un123, @ni123⟩⟩⟩⟩⟩, ⟨⟨⟨⟨@zo123, ⟨@kt123, @bo123⟩⟩, ⟨⟨@st123, @ze123⟩, ⟨@nk124, @ag124⟩⟩⟩, ⟨⟨@sz124, ⟨@by124, @un124⟩⟩, ⟨⟨@ni124, @kt124⟩, ⟨@bo124, @st124⟩⟩⟩⟩, ⟨⟨⟨@ze124, ⟨@nk125, @ag125⟩⟩, ⟨⟨@sz125, @by125⟩, ⟨@un125, @ni125⟩⟩⟩, ⟨⟨@kt125, ⟨@bo125, @st125⟩⟩, ⟨⟨@ze125, @nk126⟩, ⟨@ag126, @sz126⟩⟩⟩⟩⟩⟩, ⟨⟨⟨⟨⟨@by126, ⟨@un126, @ni126⟩⟩, ⟨⟨@kt126, @bo126⟩, ⟨@st126, @ze126⟩⟩⟩, ⟨⟨@nk128, ⟨@ag128, @sz128⟩⟩, ⟨⟨@by128, @un128⟩, ⟨@ni128, @kt128⟩⟩⟩⟩, ⟨⟨⟨@bo128, ⟨@st128, @ze128⟩⟩, ⟨⟨@nk129, @ag129⟩, ⟨@sz129, @by129⟩⟩⟩, ⟨⟨@un129, ⟨@ni129, @kt129⟩⟩, ⟨⟨@bo129, @st129⟩, ⟨@ze129, @nk131⟩⟩⟩⟩⟩, ⟨⟨⟨⟨@ag131, ⟨@sz131, @by131⟩⟩, ⟨⟨@un131, @ni131⟩, ⟨@kt131, @bo131⟩⟩⟩, ⟨⟨@st131, ⟨@ze131, @nk133⟩⟩, ⟨⟨@ag133, @sz133⟩, ⟨@by133, @un133⟩⟩⟩⟩, ⟨⟨⟨@ni133, ⟨@kt133, @bo133⟩⟩, ⟨⟨@st133, @ze133⟩, ⟨@ag134, @sz134⟩⟩⟩, ⟨⟨⟨@by134, @un134⟩, ⟨@ni134, @kt134⟩⟩, ⟨⟨@bo134, @st134⟩, ⟨@ze134, @nk135⟩⟩⟩⟩⟩⟩⟩⟩⟩, ⟨⟨⟨⟨⟨⟨⟨⟨@ag135, ⟨@sz135, @by135⟩⟩, ⟨⟨@un135, @ni135⟩, ⟨@kt135, @bo135⟩⟩⟩, ⟨⟨@st135, ⟨@ze135, @nk136⟩⟩, ⟨⟨@ag136, @sz136⟩, ⟨@by136, @un136⟩⟩⟩⟩, ⟨⟨⟨@ni136, ⟨@kt136, @bo136⟩⟩, ⟨⟨@st136, @ze136⟩, ⟨@nk138, @ag138⟩⟩⟩, ⟨⟨@sz138, ⟨@by138, @un138⟩⟩, ⟨⟨@ni138, @kt138⟩, ⟨@bo138, @st138⟩⟩⟩⟩⟩, ⟨⟨⟨⟨@ze138, ⟨@nk140, @ag140⟩⟩, ⟨⟨@sz140, @by140⟩, ⟨@un140, @ni140⟩⟩⟩, ⟨⟨@kt140, ⟨@bo140, @st140⟩⟩, ⟨⟨@ze140, @nk141⟩, ⟨@ag141, @sz141⟩⟩⟩⟩, ⟨⟨⟨@by141, ⟨@un141, @ni141⟩⟩, ⟨⟨@kt141, @bo141⟩, ⟨@st141, @ze141⟩⟩⟩, ⟨⟨@ag142, ⟨@sz142, @by142⟩⟩, ⟨⟨@un142, @ni142⟩, ⟨@kt142, @bo142⟩⟩⟩⟩⟩⟩, ⟨⟨⟨⟨⟨@st142, ⟨@ze142, @fi142⟩⟩, ⟨⟨@fa142_0, @ft142_0⟩, ⟨@fa142_1, @ft142_1⟩⟩⟩, ⟨⟨@fa142_2, ⟨@ft142_2, @ag143⟩⟩, ⟨⟨@sz143, @by143⟩, ⟨@un143, @ni143⟩⟩⟩⟩, ⟨⟨⟨@kt143, ⟨@bo143, @st143⟩⟩, ⟨⟨@ze143, @fi143⟩, ⟨@fa143_0, @ft143_0⟩⟩⟩, ⟨⟨@fa143_1, ⟨@ft143_1, @fa143_2⟩⟩, ⟨⟨@ft143_2, @nk144⟩, ⟨@ag144, @sz144⟩⟩⟩⟩⟩, ⟨⟨⟨⟨@by144, ⟨@un144, @ni144⟩⟩, ⟨⟨@kt144, @bo144⟩, ⟨@st144, @ze144⟩⟩⟩, ⟨⟨@nk145, ⟨@ag145, @sz145⟩⟩, ⟨⟨@by145, @un145⟩, ⟨@ni145, @kt145⟩⟩⟩⟩, ⟨⟨⟨@bo145, ⟨@st145, @ze145⟩⟩, ⟨⟨@nk148, @ag148⟩, ⟨@sz148, @by148⟩⟩⟩, ⟨⟨@un148, ⟨@ni148, @kt148⟩⟩, ⟨⟨@bo148, @st148⟩, ⟨@ze148, @nk149⟩⟩⟩⟩⟩⟩⟩, ⟨⟨⟨⟨⟨⟨@ag149, ⟨@sz149, @by149⟩⟩, ⟨⟨@un149, @ni149⟩, ⟨@zo149, @kt149⟩⟩⟩, ⟨⟨@bo149, ⟨@st149, @ze149⟩⟩, ⟨⟨@ag150, @sz150⟩, ⟨@by150, @un150⟩⟩⟩⟩, ⟨⟨⟨@ni150, ⟨@kt150, @bo150⟩⟩, ⟨⟨@st150, @ze150⟩, ⟨@fi150, @fa150_0⟩⟩⟩, ⟨⟨@ft150_0, ⟨@ag151, @sz151⟩⟩, ⟨⟨@by151, @un151⟩, ⟨@ni151, @kt151⟩⟩⟩⟩⟩, ⟨⟨⟨⟨@bo151, ⟨@st151, @ze151⟩⟩, ⟨⟨@fi151, @fa151_0⟩, ⟨@ft151_0, @ag153⟩⟩⟩, ⟨⟨@sz153, ⟨@by153, @un153⟩⟩, ⟨⟨@ni153, @kt153⟩, ⟨@bo153, @st153⟩⟩⟩⟩, ⟨⟨⟨@ze153, ⟨@fi153, @fa153_0⟩⟩, ⟨⟨@ft153_0, @fa153_1⟩, ⟨@ft153_1, @ag154⟩⟩⟩, ⟨⟨@sz154, ⟨@by154, @un154⟩⟩, ⟨⟨@ni154, @kt154⟩, ⟨@bo154, @st154⟩⟩⟩⟩⟩⟩, ⟨⟨⟨⟨⟨@ze154, ⟨@fi154, @fa154_0⟩⟩, ⟨⟨@ft154_0, @fa154_1⟩, ⟨@ft154_1, @ag156⟩⟩⟩, ⟨⟨@sz156, ⟨@by156, @un156⟩⟩, ⟨⟨@ni156, @kt156⟩, ⟨@bo156, @st156⟩⟩⟩⟩, ⟨⟨⟨@ze156, ⟨@fi156, @fa156_0⟩⟩, ⟨⟨@ft156_0, @fa156_1⟩, ⟨@ft156_1, @fa156_2⟩⟩⟩, ⟨⟨@ft156_2, ⟨@fa156_3, @ft156_3⟩⟩, ⟨⟨@ag157, @sz157⟩, ⟨@by157, @un157⟩⟩⟩⟩⟩, ⟨⟨⟨⟨@ni157, ⟨@kt157, @bo157⟩⟩, ⟨⟨@st157, @ze157⟩, ⟨@fi157, @fa157_0⟩⟩⟩, ⟨⟨@ft157_0, ⟨@fa157_1, @ft157_1⟩⟩, ⟨⟨@fa157_2, @ft157_2⟩, ⟨@fa157_3, @ft157_3⟩⟩⟩⟩, ⟨⟨⟨@ag159, ⟨@sz159, @by159⟩⟩, ⟨⟨@un159, @ni159⟩, ⟨@kt159, @bo159⟩⟩⟩, ⟨⟨⟨@st159, @ze159⟩, ⟨@fi159, @ft159_0⟩⟩, ⟨⟨@ag160, @sz160⟩, ⟨@by160, @un160⟩⟩⟩⟩⟩⟩⟩⟩, ⟨⟨⟨⟨⟨⟨⟨@ni160, ⟨@kt160, @bo160⟩⟩, ⟨⟨@st160, @ze160⟩, ⟨@fi160, @ft160_0⟩⟩⟩, ⟨⟨@ag161, ⟨@sz161, @by161⟩⟩, ⟨⟨@un161, @ni161⟩, ⟨@zo161, @kt161⟩⟩⟩⟩, ⟨⟨⟨@in161, ⟨@bo161, @st161⟩⟩, ⟨⟨@ze161, @ag162⟩, ⟨@sz162, @by162⟩⟩⟩, ⟨⟨@un162, ⟨@ni162, @zo162⟩⟩, ⟨⟨@kt162, @in162⟩, ⟨@bo162, @st162⟩⟩⟩⟩⟩, ⟨⟨⟨⟨@ze162, ⟨@nk163, @ag163⟩⟩, ⟨⟨@sz163, @by163⟩, ⟨@un163, @ni163⟩⟩⟩, ⟨⟨@kt163, ⟨@bo163, @st163⟩⟩, ⟨⟨@ze163, @ag164⟩, ⟨@sz164, @by164⟩⟩⟩⟩, ⟨⟨⟨@un164, ⟨@ni164, @zo164⟩⟩, ⟨⟨@kt164, @in164⟩, ⟨@bo164, @st164⟩⟩⟩, ⟨⟨@ze164, ⟨@ag165, @sz165⟩⟩, ⟨⟨@by165, @un165⟩, ⟨@ni165, @zo165⟩⟩⟩⟩⟩⟩, ⟨⟨⟨⟨⟨@kt165, ⟨@in165, @bo165⟩⟩, ⟨⟨@st165, @ze165⟩, ⟨@ag166, @sz166⟩⟩⟩, ⟨⟨@by166, ⟨@un166, @ni166⟩⟩, ⟨⟨@kt166, @bo166⟩, ⟨@st166, @ze166⟩⟩⟩⟩, ⟨⟨⟨@fi166, ⟨@fa166_0, @ft166_0⟩⟩, ⟨⟨@fa166_1, @ft166_1⟩, ⟨@fa166_2, @ft166_2⟩⟩⟩, ⟨⟨@fa166_3, ⟨@ft166_3, @fa166_4⟩⟩, ⟨⟨@ft166_4, @fa166_5⟩, ⟨@ft166_5, @fa166_6⟩⟩⟩⟩⟩, ⟨⟨⟨⟨@ft166_6, ⟨@fa166_7, @ft166_7⟩⟩, ⟨⟨@fa166_8, @ft166_8⟩, ⟨@fa166_9, @ft166_9⟩⟩⟩, ⟨⟨@fa166_10, ⟨@ft166_10, @ag167⟩⟩, ⟨⟨@sz167, @by167⟩, ⟨@un167, @ni167⟩⟩⟩⟩, ⟨⟨⟨@kt167, ⟨@bo167, @st167⟩⟩, ⟨⟨@ze167, @fi167⟩, ⟨@fa167_0, @ft167_0⟩⟩⟩, ⟨⟨@fa167_1, ⟨@ft167_1, @fa167_2⟩⟩, ⟨⟨@ft167_2, @fa167_3⟩, ⟨@ft167_3, @fa167_4⟩⟩⟩⟩⟩⟩⟩, ⟨⟨⟨⟨⟨⟨@ft167_4, ⟨@fa167_5, @ft167_5⟩⟩, ⟨⟨@fa167_6, @ft167_6⟩, ⟨@fa167_7, @ft167_7⟩⟩⟩, ⟨⟨@fa167_8, ⟨@ft167_8, @fa167_9⟩⟩, ⟨⟨@ft167_9, @fa167_10⟩, ⟨@ft167_10, @fo⟩⟩⟩⟩, ⟨⟨⟨@ca3, ⟨@ca4, @ca5⟩⟩, ⟨⟨@ca6, @ca7⟩, ⟨@ca8, @ca9⟩⟩⟩, ⟨⟨@ca10, ⟨@ca11, @ca12⟩⟩, ⟨⟨@ca13, @ca14⟩, ⟨@ca15, @ca16⟩⟩⟩⟩⟩, ⟨⟨⟨⟨@ca17, ⟨@ca18, @ca19⟩⟩, ⟨⟨@ca20, @ca21⟩, ⟨@ca22, @ca23⟩⟩⟩, ⟨⟨@ca24, ⟨@ca25, @ca26⟩⟩, ⟨⟨@ca27, @ca28⟩, ⟨@ca29, @ca30⟩⟩⟩⟩, ⟨⟨⟨@ca31, ⟨@ca32, @ca33⟩⟩, ⟨⟨@ca34, @ca35⟩, ⟨@ca36, @ca37⟩⟩⟩, ⟨⟨@ca38, ⟨@ca39, @ca40⟩⟩, ⟨⟨@ca41, @ca42⟩, ⟨@ca43, @ca44⟩⟩⟩⟩⟩⟩, ⟨⟨⟨⟨⟨@ca45, ⟨@ca46, @ca47⟩⟩, ⟨⟨@ca48, @ca49⟩, ⟨@ca50, @ca51⟩⟩⟩, ⟨⟨@ca52, ⟨@ca53, @ca55⟩⟩, ⟨⟨@ca56, @ca57⟩, ⟨@ca58, @ca59⟩⟩⟩⟩, ⟨⟨⟨@ca60, ⟨@ca61, @ca62⟩⟩, ⟨⟨@ca63, @ca64⟩, ⟨@ca65, @ca66⟩⟩⟩, ⟨⟨@ca67, ⟨@ca68, @ca69⟩⟩, ⟨⟨@ca70, @ca71⟩, ⟨@ca72, @ca73⟩⟩⟩⟩⟩, ⟨⟨⟨⟨@ca74, ⟨@ca75, @ca76⟩⟩, ⟨⟨@ca77, @ca78⟩, ⟨@ca79, @ca80⟩⟩⟩, ⟨⟨@ca81, ⟨@ca82, @ca83⟩⟩, ⟨⟨@ca85, @ca87⟩, ⟨@ca88, @ca89⟩⟩⟩⟩, ⟨⟨⟨@ca90, ⟨@ca91, @ca92⟩⟩, ⟨⟨@ca95, @ca96⟩, ⟨@ca97, @ca98⟩⟩⟩, ⟨⟨⟨@ca99, @ca100⟩, ⟨@ca101, @ca102⟩⟩, ⟨⟨@ca103, @ca104⟩, ⟨@ca105, @ca106⟩⟩⟩⟩⟩⟩⟩⟩⟩⟩⟩
end Go.Proofs.YtonolfpnidaflaaDoor.E
