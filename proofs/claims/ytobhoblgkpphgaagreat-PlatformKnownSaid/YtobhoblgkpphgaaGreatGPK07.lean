/- Part of the proof. -/
import Derived.Test.YtobhoblgkpphgaaGreatGPK06
set_option linter.unusedSimpArgs false
set_option linter.unusedVariables false
set_option maxRecDepth 100000
namespace Go.AM.F
def f166r0a : ACode :=
  .reg [
    ⟨.new 397 2 [(.int .i64 0), (.slice none 0 0)], .fr 12, none⟩,
    ⟨.storen 2 (.fr 12) (.fr 27), .no, none⟩]
def f166r0b : ACode :=
  .block 7 (.seq (.dreg [
      (⟨.faddr 0 (.fr 12), .tm, none⟩, []),
      (⟨.load1 (.tm 0), .tm, none⟩, []),
      (⟨.load1 (.fr 3), .tm, none⟩, []),
      (⟨.callf 168 [(.tm 0)], .tm, none⟩, [1]),
      (⟨.bin .gtr (.tm 2) (.tm 0), .fr 28, none⟩, [])]) <|
      .cond (.fr 28)
        (.seq (.reg [
        ⟨.store1 (.fr 1) (.c (.pointer none)), .no, none⟩,
        ⟨.store1 (.fr 2) (.c (.int .i64 151)), .no, none⟩]) <|
        .ret)
        (.skip))
noncomputable def f166 : AFunc := ⟨[0, 2, 3, 4, 5, 6, 7, 9, 10, 11, 12, 13, 14, 15, 18, 22, 28, 29, 62, 80, 82, 89, 93, 94, 95, 111, 125, 126, 131],
 .seq (.reg [
 ⟨.new 300 1 [(.pointer none)], .fr 1, none⟩,
 ⟨.new 23 1 [(.int .i64 0)], .fr 2, none⟩]) <|
 .seq (.block 0 (.seq (.reg [
 ⟨.mov (.fr 0), .tm, none⟩,
 ⟨.eqv 1 false (.tm 0) (.c (.pointer none)), .tm, none⟩,
 ⟨.mov (.tm 0), .fr 13, none⟩]) <|
 .cond (.fr 13)
 (.seq (.reg [
 ⟨.store1 (.fr 1) (.c (.pointer none)), .no, none⟩,
 ⟨.store1 (.fr 2) (.c (.int .i64 1)), .no, none⟩]) <|
 .ret)
 (.seq (.reg [
 ⟨.mov (.fr 0), .tm, none⟩,
 ⟨.callf 238 [(.tm 0)], .tm, none⟩,
 ⟨.bin .lss (.tm 0) (.c (.int .i64 3)), .tm, none⟩,
 ⟨.mov (.tm 0), .fr 14, none⟩]) <|
 .cond (.fr 14)
 (.seq (.reg [
 ⟨.store1 (.fr 1) (.c (.pointer none)), .no, none⟩,
 ⟨.store1 (.fr 2) (.c (.int .i64 2)), .no, none⟩]) <|
 .ret)
 (.seq (.reg [
 ⟨.mov (.fr 0), .tm, none⟩,
 ⟨.callf 105 [(.tm 0)], .tm, none⟩,
 ⟨.mov (.tm 0), .fr 15, none⟩]) <|
 .cond (.fr 15)
 (.seq (.reg [
 ⟨.store1 (.fr 1) (.c (.pointer none)), .no, none⟩,
 ⟨.store1 (.fr 2) (.c (.int .i64 140)), .no, none⟩]) <|
 .ret)
 (.skip))))) <|
 .seq (.reg [
 ⟨.mov (.fr 0), .tm, none⟩,
 ⟨.build [(.pointer none), (.int .i64 0), (.int .i64 0), (.slice none 0 0), (.int .i64 0)] [(0, 1, (.tm 0))], .tm, none⟩,
 ⟨.box 393 5 (.tm 0), .tm, none⟩,
 ⟨.new 300 1 [(.pointer none)], .fr 3, none⟩,
 ⟨.store1 (.fr 3) (.tm 0), .no, none⟩]) <|
 .seq (.reg [
 ⟨.mov (.c (.bool true)), .fr 4, none⟩]) <|
 .seq (.seq (.reg [
 ⟨.mov (.c (.int .i64 0)), .fr 16, none⟩]) <|
 .block 1 (.loop (.seq (.reg [
 ⟨.bin .lss (.fr 16) (.c (.int .i64 2)), .fr 17, none⟩]) <|
 .seq (.cond (.fr 17)
 (.skip)
 (.exit 1)) <|
 .seq (.block 2 (.seq (.reg [
 ⟨.mov (.fr 16), .tm, none⟩,
 ⟨.mov (.tm 0), .fr 5, none⟩]) <|
 .seq (.reg [
 ⟨.mov (.fr 0), .tm, none⟩,
 ⟨.mov (.fr 5), .tm, none⟩,
 ⟨.callf 239 [(.tm 1), (.tm 0)], .tm, none⟩,
 ⟨.mov (.tm 0), .tm, none⟩,
 ⟨.extract (.tm 0) 0, .tm, none⟩,
 ⟨.extract (.tm 1) 1, .tm, none⟩,
 ⟨.mov (.tm 1), .fr 6, none⟩,
 ⟨.mov (.tm 0), .tm, none⟩]) <|
 .seq (.reg [
 ⟨.mov (.fr 4), .tm, none⟩,
 ⟨.mov (.tm 0), .tm, none⟩,
 ⟨.mov (.fr 6), .tm, some ((.tm 0), true)⟩,
 ⟨.bslice 5 1 1 [(.int .u8 0)] [(0, 1, (.c (.int .u8 0)))], .tm, some ((.tm 1), true)⟩,
 ⟨.callf 240 [(.tm 1), (.tm 0)], .tm, some ((.tm 2), true)⟩,
 ⟨.mov (.fr 6), .tm, some ((.tm 3), true)⟩,
 ⟨.len false (.tm 0), .tm, some ((.tm 4), true)⟩,
 ⟨.bin .eql (.tm 2) (.tm 0), .tm, some ((.tm 5), true)⟩,
 ⟨.pick (.tm 6) (.tm 0) (.c (.bool false)), .tm, none⟩,
 ⟨.mov (.tm 0), .fr 4, none⟩]) <|
 .seq (.reg [
 ⟨.mov (.fr 6), .tm, none⟩,
 ⟨.callf 241 [(.tm 0)], .tm, none⟩,
 ⟨.assert 391 (.agg #[(.int .i64 0), (.int .i64 0)]) true (.tm 0), .tm, none⟩,
 ⟨.mov (.tm 0), .tm, none⟩,
 ⟨.extract (.tm 0) 0, .tm, none⟩,
 ⟨.extract (.tm 1) 1, .tm, none⟩,
 ⟨.new 391 2 [(.int .i64 0), (.int .i64 0)], .fr 7, none⟩,
 ⟨.storen 2 (.fr 7) (.tm 1), .no, none⟩,
 ⟨.mov (.tm 0), .fr 8, none⟩]) <|
 .seq (.dreg [
 (⟨.mov (.fr 8), .tm, none⟩, []),
 (⟨.mov (.tm 0), .tm, none⟩, []),
 (⟨.faddr 0 (.fr 7), .tm, some ((.tm 0), true)⟩, []),
 (⟨.load1 (.tm 0), .tm, some ((.tm 1), true)⟩, []),
 (⟨.load1 (.fr 3), .tm, some ((.tm 2), true)⟩, []),
 (⟨.nilck (.tm 0), .tm, some ((.tm 3), true)⟩, []),
 (⟨.faddr 1 (.tm 0), .tm, some ((.tm 4), true)⟩, []),
 (⟨.faddr 0 (.tm 0), .tm, some ((.tm 5), true)⟩, []),
 (⟨.load1 (.tm 0), .tm, some ((.tm 6), true)⟩, []),
 (⟨.bin .gtr (.tm 5) (.tm 0), .tm, some ((.tm 7), true)⟩, []),
 (⟨.pick (.tm 8) (.tm 0) (.c (.bool false)), .fr 18, none⟩, [])]) <|
 .cond (.fr 18)
 (.reg [
 ⟨.load1 (.fr 3), .tm, none⟩,
 ⟨.loadn 2 (.fr 7), .tm, none⟩,
 ⟨.nilck (.tm 1), .tm, none⟩,
 ⟨.faddr 1 (.tm 0), .tm, none⟩,
 ⟨.storen 2 (.tm 0) (.tm 2), .no, none⟩])
 (.skip))) <|
 .reg [
 ⟨.bin .add (.fr 16) (.c (.int .i64 1)), .tm, none⟩,
 ⟨.mov (.tm 0), .fr 16, none⟩]))) <|
 .seq (.block 3 (.seq (.reg [
 ⟨.load1 (.fr 3), .tm, none⟩,
 ⟨.nilck (.tm 0), .tm, none⟩,
 ⟨.faddr 1 (.tm 0), .tm, none⟩,
 ⟨.faddr 0 (.tm 0), .tm, none⟩,
 ⟨.load1 (.tm 0), .tm, none⟩,
 ⟨.bin .gtr (.tm 0) (.c (.int .i64 0)), .tm, none⟩,
 ⟨.mov (.tm 0), .fr 20, none⟩]) <|
 .cond (.fr 20)
 (.skip)
 (.seq (.reg [
 ⟨.mov (.fr 4), .tm, none⟩,
 ⟨.un .not (.tm 0), .tm, none⟩,
 ⟨.mov (.tm 0), .fr 21, none⟩]) <|
 .cond (.fr 21)
 (.seq (.reg [
 ⟨.store1 (.fr 1) (.c (.pointer none)), .no, none⟩,
 ⟨.store1 (.fr 2) (.c (.int .i64 151)), .no, none⟩]) <|
 .ret)
 (.seq (.reg [
 ⟨.load1 (.fr 3), .tm, none⟩,
 ⟨.build [(.int .i64 0), (.int .i64 0)] [(0, 1, (.c (.int .i64 1))), (1, 1, (.c (.int .i64 1)))], .tm, none⟩,
 ⟨.nilck (.tm 1), .tm, none⟩,
 ⟨.faddr 1 (.tm 0), .tm, none⟩,
 ⟨.storen 2 (.tm 0) (.tm 2), .no, none⟩]) <|
 .seq (.dreg [
 (⟨.load1 (.fr 3), .tm, none⟩, []),
 (⟨.load1 (.fr 3), .tm, none⟩, []),
 (⟨.nilck (.tm 0), .tm, none⟩, []),
 (⟨.faddr 1 (.tm 0), .tm, none⟩, []),
 (⟨.loadn 2 (.tm 0), .tm, none⟩, []),
 (⟨.iface 391 (.tm 0), .tm, none⟩, []),
 (⟨.callf 242 [(.tm 5), (.c (.int .i64 1)), (.tm 0)], .tm, none⟩, []),
 (⟨.mov (.tm 0), .fr 9, none⟩, [])]) <|
 .seq (.reg [
 ⟨.mov (.fr 9), .tm, none⟩,
 ⟨.bin .neq (.tm 0) (.c (.int .i64 0)), .fr 19, none⟩]) <|
 .cond (.fr 19)
 (.seq (.reg [
 ⟨.mov (.fr 9), .tm, none⟩,
 ⟨.store1 (.fr 1) (.c (.pointer none)), .no, none⟩,
 ⟨.store1 (.fr 2) (.tm 0), .no, none⟩]) <|
 .ret)
 (.skip))))) <|
 .seq (.seq (.reg [
 ⟨.load1 (.fr 3), .tm, none⟩,
 ⟨.callf 243 [(.tm 0)], .fr 22, none⟩,
 ⟨.mov (.c (.int .i64 0)), .fr 23, none⟩]) <|
 .block 4 (.loop (.seq (.reg [
 ⟨.bin .lss (.fr 23) (.fr 22), .fr 24, none⟩]) <|
 .seq (.cond (.fr 24)
 (.skip)
 (.exit 4)) <|
 .seq (.block 5 (.seq (.dreg [
 (⟨.load1 (.fr 3), .tm, none⟩, []),
 (⟨.load1 (.fr 3), .tm, none⟩, []),
 (⟨.callf 168 [(.tm 0)], .tm, none⟩, [0]),
 (⟨.callf 244 [(.tm 2), (.tm 0)], .tm, none⟩, []),
 (⟨.mov (.tm 0), .tm, none⟩, []),
 (⟨.extract (.tm 0) 0, .tm, none⟩, []),
 (⟨.extract (.tm 1) 1, .tm, none⟩, []),
 (⟨.new 397 2 [(.int .i64 0), (.slice none 0 0)], .fr 10, none⟩, []),
 (⟨.storen 2 (.fr 10) (.tm 1), .no, none⟩, []),
 (⟨.mov (.tm 0), .fr 11, none⟩, [])]) <|
 .seq (.seq (.dreg [
 (⟨.mov (.fr 11), .tm, none⟩, []),
 (⟨.un .not (.tm 0), .tm, none⟩, []),
 (⟨.mov (.tm 0), .tm, none⟩, []),
 (⟨.faddr 0 (.fr 10), .tm, some ((.tm 0), false)⟩, []),
 (⟨.load1 (.tm 0), .tm, some ((.tm 1), false)⟩, []),
 (⟨.load1 (.fr 3), .tm, some ((.tm 2), false)⟩, []),
 (⟨.callf 168 [(.tm 0)], .tm, some ((.tm 3), false)⟩, [4]),
 (⟨.bin .neq (.tm 2) (.tm 0), .tm, some ((.tm 4), false)⟩, []),
 (⟨.pick (.tm 5) (.c (.bool true)) (.tm 0), .fr 25, none⟩, [])]) <|
 .cond (.fr 25)
 (.exit 4)
 (.skip)) <|
 .dreg [
 (⟨.load1 (.fr 3), .tm, none⟩, []),
 (⟨.load1 (.fr 3), .tm, none⟩, []),
 (⟨.nilck (.tm 0), .tm, none⟩, []),
 (⟨.faddr 3 (.tm 0), .tm, none⟩, []),
 (⟨.load1 (.tm 0), .tm, none⟩, []),
 (⟨.faddr 1 (.fr 10), .tm, none⟩, []),
 (⟨.load1 (.tm 0), .tm, none⟩, []),
 (⟨.bslice 42 1 1 [(.slice none 0 0)] [(0, 1, (.tm 0))], .tm, none⟩, []),
 (⟨.app 42 1 24 (.tm 3) (.tm 0), .tm, none⟩, [0]),
 (⟨.nilck (.tm 8), .tm, none⟩, []),
 (⟨.faddr 3 (.tm 0), .tm, none⟩, []),
 (⟨.store1 (.tm 0) (.tm 2), .no, none⟩, [])])) <|
 .reg [
 ⟨.bin .add (.fr 23) (.c (.int .i64 1)), .tm, none⟩,
 ⟨.mov (.tm 0), .fr 23, none⟩]))) <|
 .seq (.seq (.reg [
 ⟨.load1 (.fr 3), .tm, none⟩,
 ⟨.mkfn (.func 245) [(.tm 0)] [], .fr 26, none⟩]) <|
 .block 6 (.rangeF (.fr 26) 133 [0, 2, 3, 4, 5, 6, 7, 9, 10, 11, 12, 13, 14, 15, 18, 22, 28, 29, 62, 80, 82, 89, 93, 94, 95, 111, 125, 126, 131] #[126] (rfA Go.Proofs.Tryz.prog 166 0) (rfB Go.Proofs.Tryz.prog 166 0))) <|
 .seq (.reg [
 ⟨.load1 (.fr 3), .tm, none⟩,
 ⟨.store1 (.fr 1) (.tm 0), .no, none⟩,
 ⟨.store1 (.fr 2) (.c (.int .i64 0)), .no, none⟩]) <|
 .ret, [.c1 1, .c1 2]⟩
theorem f166r0a_ok : compC Go.Proofs.Tryz.prog 0 133 [0, 2, 3, 4, 5, 6, 7, 9, 10, 11, 12, 13, 14, 15, 18, 22, 28, 29, 62, 80, 82, 89, 93, 94, 95, 111, 125, 126, 131] (rfA Go.Proofs.Tryz.prog 166 0) = some f166r0a := by kernel_rfl
theorem f166r0b_ok : compC Go.Proofs.Tryz.prog 0 133 [0, 2, 3, 4, 5, 6, 7, 9, 10, 11, 12, 13, 14, 15, 18, 22, 28, 29, 62, 80, 82, 89, 93, 94, 95, 111, 125, 126, 131] (rfB Go.Proofs.Tryz.prog 166 0) = some f166r0b := by kernel_rfl
theorem f166r0_n : (noRF (rfA Go.Proofs.Tryz.prog 166 0) && noRF (rfB Go.Proofs.Tryz.prog 166 0)) = true := by kernel_rfl
theorem f166_ok : compF Go.Proofs.Tryz.prog 0 [0, 2, 3, 4, 5, 6, 7, 9, 10, 11, 12, 13, 14, 15, 18, 22, 28, 29, 62, 80, 82, 89, 93, 94, 95, 111, 125, 126, 131] 166 = some f166 := by kernel_rfl
theorem f166_n : argsOK Go.Proofs.Tryz.prog 166 1 = true := by kernel_rfl
end Go.AM.F

set_option maxRecDepth 100000
set_option maxHeartbeats 0
namespace Go.AM.TPf
open Go.Proofs Go.AM.F Go.AM.Ev
noncomputable def RT : List RDef := [⟨133, [0, 2, 3, 4, 5, 6, 7, 9, 10, 11, 12, 13, 14, 15, 18, 22, 28, 29, 62, 80, 82, 89, 93, 94, 95, 111, 125, 126, 131], #[126], rfA Go.Proofs.Tryz.prog 166 0, rfB Go.Proofs.Tryz.prog 166 0, f166r0a, f166r0b⟩,
 ⟨37, [0, 1, 3, 4, 5, 6, 7, 9, 14, 27, 28, 29, 33], #[28, 29], rfA Go.Proofs.Tryz.prog 239 0, rfB Go.Proofs.Tryz.prog 239 0, f239r0a, f239r0b⟩,
 ⟨21, [0, 1, 2, 4, 5, 6, 12, 13], #[13], rfA Go.Proofs.Tryz.prog 396 0, rfB Go.Proofs.Tryz.prog 396 0, f396r0a, f396r0b⟩,
 ⟨13, [0, 1, 2, 4, 5, 6, 7], #[7], rfA Go.Proofs.Tryz.prog 399 0, rfB Go.Proofs.Tryz.prog 399 0, f399r0a, f399r0b⟩]
theorem RT_ok : RTok Go.Proofs.Tryz.prog 0 RT := by
 intro d hd
 simp only [RT, List.mem_cons, List.not_mem_nil, or_false] at hd
 rcases hd with rfl | rfl | rfl | rfl
 · exact ⟨f166r0a_ok, f166r0b_ok, f166r0_n, by decide, by kernel_rfl, by kernel_rfl⟩
 · exact ⟨f239r0a_ok, f239r0b_ok, f239r0_n, by decide, by kernel_rfl, by kernel_rfl⟩
 · exact ⟨f396r0a_ok, f396r0b_ok, f396r0_n, by decide, by kernel_rfl, by kernel_rfl⟩
 · exact ⟨f399r0a_ok, f399r0b_ok, f399r0_n, by decide, by kernel_rfl, by kernel_rfl⟩
noncomputable def e3 : EF := ⟨0, f3.sl, f3.res, simpC f3.body⟩
theorem e3_ok : EFok RT Go.Proofs.Tryz.prog 0 3 e3 := ok_sf f3_ok rfl f3_n
noncomputable def e4 : EF := ⟨2, f4.sl, f4.res, simpC f4.body⟩
theorem e4_ok : EFok RT Go.Proofs.Tryz.prog 0 4 e4 := ok_sf f4_ok rfl f4_n
noncomputable def e5 : EF := ⟨0, f5.sl, f5.res, simpC f5.body⟩
theorem e5_ok : EFok RT Go.Proofs.Tryz.prog 0 5 e5 := ok_sf f5_ok rfl f5_n
noncomputable def e6 : EF := ⟨2, f6.sl, f6.res, simpC f6.body⟩
theorem e6_ok : EFok RT Go.Proofs.Tryz.prog 0 6 e6 := ok_sf f6_ok rfl f6_n
noncomputable def e7 : EF := ⟨1, f7.sl, f7.res, simpC f7.body⟩
theorem e7_ok : EFok RT Go.Proofs.Tryz.prog 0 7 e7 := ok_sf f7_ok rfl f7_n
noncomputable def e8 : EF := ⟨1, f8.sl, f8.res, simpC f8.body⟩
theorem e8_ok : EFok RT Go.Proofs.Tryz.prog 0 8 e8 := ok_sf f8_ok rfl f8_n
noncomputable def e9 : EF := ⟨2, f9.sl, f9.res, simpC f9.body⟩
theorem e9_ok : EFok RT Go.Proofs.Tryz.prog 0 9 e9 := ok_sf f9_ok rfl f9_n
noncomputable def e10 : EF := ⟨1, f10.sl, f10.res, simpC f10.body⟩
theorem e10_ok : EFok RT Go.Proofs.Tryz.prog 0 10 e10 := ok_sf f10_ok rfl f10_n
noncomputable def e11 : EF := ⟨1, f11.sl, f11.res, simpC f11.body⟩
theorem e11_ok : EFok RT Go.Proofs.Tryz.prog 0 11 e11 := ok_sf f11_ok rfl f11_n
noncomputable def e12 : EF := ⟨1, f12.sl, f12.res, simpC f12.body⟩
theorem e12_ok : EFok RT Go.Proofs.Tryz.prog 0 12 e12 := ok_sf f12_ok rfl f12_n
noncomputable def e13 : EF := ⟨1, f13.sl, f13.res, simpC f13.body⟩
theorem e13_ok : EFok RT Go.Proofs.Tryz.prog 0 13 e13 := ok_sf f13_ok rfl f13_n
noncomputable def e14 : EF := ⟨2, f14.sl, f14.res, simpC f14.body⟩
theorem e14_ok : EFok RT Go.Proofs.Tryz.prog 0 14 e14 := ok_sf f14_ok rfl f14_n
noncomputable def e15 : EF := ⟨2, f15.sl, f15.res, simpC f15.body⟩
theorem e15_ok : EFok RT Go.Proofs.Tryz.prog 0 15 e15 := ok_sf f15_ok rfl f15_n
noncomputable def e16 : EF := ⟨2, f16.sl, f16.res, simpC f16.body⟩
theorem e16_ok : EFok RT Go.Proofs.Tryz.prog 0 16 e16 := ok_sf f16_ok rfl f16_n
noncomputable def e17 : EF := ⟨2, f17.sl, f17.res, simpC f17.body⟩
theorem e17_ok : EFok RT Go.Proofs.Tryz.prog 0 17 e17 := ok_sf f17_ok rfl f17_n
noncomputable def e18 : EF := ⟨2, f18.sl, f18.res, simpC f18.body⟩
theorem e18_ok : EFok RT Go.Proofs.Tryz.prog 0 18 e18 := ok_sf f18_ok rfl f18_n
noncomputable def e19 : EF := ⟨2, f19.sl, f19.res, simpC f19.body⟩
theorem e19_ok : EFok RT Go.Proofs.Tryz.prog 0 19 e19 := ok_sf f19_ok rfl f19_n
noncomputable def e20 : EF := ⟨0, f20.sl, f20.res, simpC f20.body⟩
theorem e20_ok : EFok RT Go.Proofs.Tryz.prog 0 20 e20 := ok_sf f20_ok rfl f20_n
noncomputable def e21 : EF := ⟨0, f21.sl, f21.res, simpC f21.body⟩
theorem e21_ok : EFok RT Go.Proofs.Tryz.prog 0 21 e21 := ok_sf f21_ok rfl f21_n
noncomputable def e22 : EF := ⟨0, f22.sl, f22.res, simpC f22.body⟩
theorem e22_ok : EFok RT Go.Proofs.Tryz.prog 0 22 e22 := ok_sf f22_ok rfl f22_n
noncomputable def e23 : EF := ⟨0, f23.sl, f23.res, simpC f23.body⟩
theorem e23_ok : EFok RT Go.Proofs.Tryz.prog 0 23 e23 := ok_sf f23_ok rfl f23_n
noncomputable def e24 : EF := ⟨2, f24.sl, f24.res, simpC f24.body⟩
theorem e24_ok : EFok RT Go.Proofs.Tryz.prog 0 24 e24 := ok_sf f24_ok rfl f24_n
noncomputable def e25 : EF := ⟨1, f25.sl, f25.res, simpC f25.body⟩
theorem e25_ok : EFok RT Go.Proofs.Tryz.prog 0 25 e25 := ok_sf f25_ok rfl f25_n
noncomputable def e26 : EF := ⟨1, f26.sl, f26.res, simpC f26.body⟩
theorem e26_ok : EFok RT Go.Proofs.Tryz.prog 0 26 e26 := ok_sf f26_ok rfl f26_n
noncomputable def e27 : EF := ⟨0, f27.sl, f27.res, simpC f27.body⟩
theorem e27_ok : EFok RT Go.Proofs.Tryz.prog 0 27 e27 := ok_sf f27_ok rfl f27_n
noncomputable def e28 : EF := ⟨1, f28.sl, f28.res, simpC f28.body⟩
theorem e28_ok : EFok RT Go.Proofs.Tryz.prog 0 28 e28 := ok_sf f28_ok rfl f28_n
noncomputable def e29 : EF := ⟨2, f29.sl, f29.res, simpC f29.body⟩
theorem e29_ok : EFok RT Go.Proofs.Tryz.prog 0 29 e29 := ok_sf f29_ok rfl f29_n
noncomputable def e30 : EF := ⟨2, f30.sl, f30.res, simpC f30.body⟩
theorem e30_ok : EFok RT Go.Proofs.Tryz.prog 0 30 e30 := ok_sf f30_ok rfl f30_n
noncomputable def e31 : EF := ⟨2, f31.sl, f31.res, simpC f31.body⟩
theorem e31_ok : EFok RT Go.Proofs.Tryz.prog 0 31 e31 := ok_sf f31_ok rfl f31_n
noncomputable def e32 : EF := ⟨1, f32.sl, f32.res, simpC f32.body⟩
theorem e32_ok : EFok RT Go.Proofs.Tryz.prog 0 32 e32 := ok_sf f32_ok rfl f32_n
noncomputable def e33 : EF := ⟨3, f33.sl, f33.res, simpC f33.body⟩
theorem e33_ok : EFok RT Go.Proofs.Tryz.prog 0 33 e33 := ok_sf f33_ok rfl f33_n
noncomputable def e37 : EF := ⟨3, f37.sl, f37.res, simpC f37.body⟩
theorem e37_ok : EFok RT Go.Proofs.Tryz.prog 0 37 e37 := ok_sf f37_ok rfl f37_n
noncomputable def e38 : EF := ⟨2, f38.sl, f38.res, simpC f38.body⟩
theorem e38_ok : EFok RT Go.Proofs.Tryz.prog 0 38 e38 := ok_sf f38_ok rfl f38_n
noncomputable def e39 : EF := ⟨3, f39.sl, f39.res, simpC f39.body⟩
theorem e39_ok : EFok RT Go.Proofs.Tryz.prog 0 39 e39 := ok_sf f39_ok rfl f39_n
noncomputable def e42 : EF := ⟨3, f42.sl, f42.res, simpC f42.body⟩
theorem e42_ok : EFok RT Go.Proofs.Tryz.prog 0 42 e42 := ok_sf f42_ok rfl f42_n
noncomputable def e43 : EF := ⟨3, f43.sl, f43.res, simpC f43.body⟩
theorem e43_ok : EFok RT Go.Proofs.Tryz.prog 0 43 e43 := ok_sf f43_ok rfl f43_n
noncomputable def e44 : EF := ⟨3, f44.sl, f44.res, simpC f44.body⟩
theorem e44_ok : EFok RT Go.Proofs.Tryz.prog 0 44 e44 := ok_sf f44_ok rfl f44_n
noncomputable def e45 : EF := ⟨3, f45.sl, f45.res, simpC f45.body⟩
theorem e45_ok : EFok RT Go.Proofs.Tryz.prog 0 45 e45 := ok_sf f45_ok rfl f45_n
noncomputable def e46 : EF := ⟨2, f46.sl, f46.res, simpC f46.body⟩
theorem e46_ok : EFok RT Go.Proofs.Tryz.prog 0 46 e46 := ok_sf f46_ok rfl f46_n
noncomputable def e47 : EF := ⟨3, f47.sl, f47.res, simpC f47.body⟩
theorem e47_ok : EFok RT Go.Proofs.Tryz.prog 0 47 e47 := ok_sf f47_ok rfl f47_n
noncomputable def e48 : EF := ⟨2, f48.sl, f48.res, simpC f48.body⟩
theorem e48_ok : EFok RT Go.Proofs.Tryz.prog 0 48 e48 := ok_sf f48_ok rfl f48_n
noncomputable def e49 : EF := ⟨1, f49.sl, f49.res, simpC f49.body⟩
theorem e49_ok : EFok RT Go.Proofs.Tryz.prog 0 49 e49 := ok_sf f49_ok rfl f49_n
noncomputable def e50 : EF := ⟨1, f50.sl, f50.res, simpC f50.body⟩
theorem e50_ok : EFok RT Go.Proofs.Tryz.prog 0 50 e50 := ok_sf f50_ok rfl f50_n
noncomputable def e51 : EF := ⟨3, f51.sl, f51.res, simpC f51.body⟩
theorem e51_ok : EFok RT Go.Proofs.Tryz.prog 0 51 e51 := ok_sf f51_ok rfl f51_n
noncomputable def e52 : EF := ⟨1, f52.sl, f52.res, simpC f52.body⟩
theorem e52_ok : EFok RT Go.Proofs.Tryz.prog 0 52 e52 := ok_sf f52_ok rfl f52_n
noncomputable def e53 : EF := ⟨1, f53.sl, f53.res, simpC f53.body⟩
theorem e53_ok : EFok RT Go.Proofs.Tryz.prog 0 53 e53 := ok_sf f53_ok rfl f53_n
noncomputable def e54 : EF := ⟨1, f54.sl, f54.res, simpC f54.body⟩
theorem e54_ok : EFok RT Go.Proofs.Tryz.prog 0 54 e54 := ok_sf f54_ok rfl f54_n
noncomputable def e55 : EF := ⟨1, f55.sl, f55.res, simpC f55.body⟩
theorem e55_ok : EFok RT Go.Proofs.Tryz.prog 0 55 e55 := ok_sf f55_ok rfl f55_n
noncomputable def e56 : EF := ⟨1, f56.sl, f56.res, simpC f56.body⟩
theorem e56_ok : EFok RT Go.Proofs.Tryz.prog 0 56 e56 := ok_sf f56_ok rfl f56_n
noncomputable def e57 : EF := ⟨1, f57.sl, f57.res, simpC f57.body⟩
theorem e57_ok : EFok RT Go.Proofs.Tryz.prog 0 57 e57 := ok_sf f57_ok rfl f57_n
noncomputable def e59 : EF := ⟨0, f59.sl, f59.res, simpC f59.body⟩
theorem e59_ok : EFok RT Go.Proofs.Tryz.prog 0 59 e59 := ok_sf f59_ok rfl f59_n
noncomputable def e60 : EF := ⟨2, f60.sl, f60.res, simpC f60.body⟩
theorem e60_ok : EFok RT Go.Proofs.Tryz.prog 0 60 e60 := ok_sf f60_ok rfl f60_n
noncomputable def e61 : EF := ⟨1, f61.sl, f61.res, simpC f61.body⟩
theorem e61_ok : EFok RT Go.Proofs.Tryz.prog 0 61 e61 := ok_sf f61_ok rfl f61_n
noncomputable def e62 : EF := ⟨1, f62.sl, f62.res, simpC f62.body⟩
theorem e62_ok : EFok RT Go.Proofs.Tryz.prog 0 62 e62 := ok_sf f62_ok rfl f62_n
noncomputable def e63 : EF := ⟨0, f63.sl, f63.res, simpC f63.body⟩
theorem e63_ok : EFok RT Go.Proofs.Tryz.prog 0 63 e63 := ok_sf f63_ok rfl f63_n
noncomputable def e64 : EF := ⟨1, f64.sl, f64.res, simpC f64.body⟩
theorem e64_ok : EFok RT Go.Proofs.Tryz.prog 0 64 e64 := ok_sf f64_ok rfl f64_n
noncomputable def e65 : EF := ⟨2, f65.sl, f65.res, simpC f65.body⟩
theorem e65_ok : EFok RT Go.Proofs.Tryz.prog 0 65 e65 := ok_sf f65_ok rfl f65_n
noncomputable def e66 : EF := ⟨1, f66.sl, f66.res, simpC f66.body⟩
theorem e66_ok : EFok RT Go.Proofs.Tryz.prog 0 66 e66 := ok_sf f66_ok rfl f66_n
noncomputable def e67 : EF := ⟨1, f67.sl, f67.res, simpC f67.body⟩
theorem e67_ok : EFok RT Go.Proofs.Tryz.prog 0 67 e67 := ok_sf f67_ok rfl f67_n
noncomputable def e68 : EF := ⟨1, f68.sl, f68.res, simpC f68.body⟩
theorem e68_ok : EFok RT Go.Proofs.Tryz.prog 0 68 e68 := ok_sf f68_ok rfl f68_n
noncomputable def e69 : EF := ⟨1, f69.sl, f69.res, simpC f69.body⟩
theorem e69_ok : EFok RT Go.Proofs.Tryz.prog 0 69 e69 := ok_sf f69_ok rfl f69_n
noncomputable def e70 : EF := ⟨1, f70.sl, f70.res, simpC f70.body⟩
theorem e70_ok : EFok RT Go.Proofs.Tryz.prog 0 70 e70 := ok_sf f70_ok rfl f70_n
noncomputable def e71 : EF := ⟨1, f71.sl, f71.res, simpC f71.body⟩
theorem e71_ok : EFok RT Go.Proofs.Tryz.prog 0 71 e71 := ok_sf f71_ok rfl f71_n
noncomputable def e72 : EF := ⟨1, f72.sl, f72.res, simpC f72.body⟩
theorem e72_ok : EFok RT Go.Proofs.Tryz.prog 0 72 e72 := ok_sf f72_ok rfl f72_n
noncomputable def e73 : EF := ⟨1, f73.sl, f73.res, simpC f73.body⟩
theorem e73_ok : EFok RT Go.Proofs.Tryz.prog 0 73 e73 := ok_sf f73_ok rfl f73_n
noncomputable def e74 : EF := ⟨3, f74.sl, f74.res, simpC f74.body⟩
theorem e74_ok : EFok RT Go.Proofs.Tryz.prog 0 74 e74 := ok_sf f74_ok rfl f74_n
noncomputable def e75 : EF := ⟨3, f75.sl, f75.res, simpC f75.body⟩
theorem e75_ok : EFok RT Go.Proofs.Tryz.prog 0 75 e75 := ok_sf f75_ok rfl f75_n
noncomputable def e76 : EF := ⟨2, f76.sl, f76.res, simpC f76.body⟩
theorem e76_ok : EFok RT Go.Proofs.Tryz.prog 0 76 e76 := ok_sf f76_ok rfl f76_n
noncomputable def e77 : EF := ⟨1, f77.sl, f77.res, simpC f77.body⟩
theorem e77_ok : EFok RT Go.Proofs.Tryz.prog 0 77 e77 := ok_sf f77_ok rfl f77_n
noncomputable def e78 : EF := ⟨1, f78.sl, f78.res, simpC f78.body⟩
theorem e78_ok : EFok RT Go.Proofs.Tryz.prog 0 78 e78 := ok_sf f78_ok rfl f78_n
noncomputable def e83 : EF := ⟨1, f83.sl, f83.res, simpC f83.body⟩
theorem e83_ok : EFok RT Go.Proofs.Tryz.prog 0 83 e83 := ok_sf f83_ok rfl f83_n
noncomputable def e84 : EF := ⟨1, f84.sl, f84.res, simpC f84.body⟩
theorem e84_ok : EFok RT Go.Proofs.Tryz.prog 0 84 e84 := ok_sf f84_ok rfl f84_n
noncomputable def e85 : EF := ⟨3, f85.sl, f85.res, simpC f85.body⟩
theorem e85_ok : EFok RT Go.Proofs.Tryz.prog 0 85 e85 := ok_sf f85_ok rfl f85_n
noncomputable def e86 : EF := ⟨2, f86.sl, f86.res, simpC f86.body⟩
theorem e86_ok : EFok RT Go.Proofs.Tryz.prog 0 86 e86 := ok_sf f86_ok rfl f86_n
noncomputable def e87 : EF := ⟨2, f87.sl, f87.res, simpC f87.body⟩
theorem e87_ok : EFok RT Go.Proofs.Tryz.prog 0 87 e87 := ok_sf f87_ok rfl f87_n
noncomputable def e88 : EF := ⟨2, f88.sl, f88.res, simpC f88.body⟩
theorem e88_ok : EFok RT Go.Proofs.Tryz.prog 0 88 e88 := ok_sf f88_ok rfl f88_n
noncomputable def e89 : EF := ⟨2, f89.sl, f89.res, simpC f89.body⟩
theorem e89_ok : EFok RT Go.Proofs.Tryz.prog 0 89 e89 := ok_sf f89_ok rfl f89_n
noncomputable def e90 : EF := ⟨2, f90.sl, f90.res, simpC f90.body⟩
theorem e90_ok : EFok RT Go.Proofs.Tryz.prog 0 90 e90 := ok_sf f90_ok rfl f90_n
noncomputable def e91 : EF := ⟨3, f91.sl, f91.res, simpC f91.body⟩
theorem e91_ok : EFok RT Go.Proofs.Tryz.prog 0 91 e91 := ok_sf f91_ok rfl f91_n
noncomputable def e92 : EF := ⟨3, f92.sl, f92.res, simpC f92.body⟩
theorem e92_ok : EFok RT Go.Proofs.Tryz.prog 0 92 e92 := ok_sf f92_ok rfl f92_n
noncomputable def e93 : EF := ⟨1, f93.sl, f93.res, simpC f93.body⟩
theorem e93_ok : EFok RT Go.Proofs.Tryz.prog 0 93 e93 := ok_sf f93_ok rfl f93_n
noncomputable def e94 : EF := ⟨2, f94.sl, f94.res, simpC f94.body⟩
theorem e94_ok : EFok RT Go.Proofs.Tryz.prog 0 94 e94 := ok_sf f94_ok rfl f94_n
noncomputable def e95 : EF := ⟨2, f95.sl, f95.res, simpC f95.body⟩
theorem e95_ok : EFok RT Go.Proofs.Tryz.prog 0 95 e95 := ok_sf f95_ok rfl f95_n
noncomputable def e96 : EF := ⟨2, f96.sl, f96.res, simpC f96.body⟩
theorem e96_ok : EFok RT Go.Proofs.Tryz.prog 0 96 e96 := ok_sf f96_ok rfl f96_n
noncomputable def e97 : EF := ⟨2, f97.sl, f97.res, simpC f97.body⟩
theorem e97_ok : EFok RT Go.Proofs.Tryz.prog 0 97 e97 := ok_sf f97_ok rfl f97_n
noncomputable def e98 : EF := ⟨2, f98.sl, f98.res, simpC f98.body⟩
theorem e98_ok : EFok RT Go.Proofs.Tryz.prog 0 98 e98 := ok_sf f98_ok rfl f98_n
noncomputable def e99 : EF := ⟨1, f99.sl, f99.res, simpC f99.body⟩
theorem e99_ok : EFok RT Go.Proofs.Tryz.prog 0 99 e99 := ok_sf f99_ok rfl f99_n
noncomputable def e100 : EF := ⟨4, f100.sl, f100.res, simpC f100.body⟩
theorem e100_ok : EFok RT Go.Proofs.Tryz.prog 0 100 e100 := ok_sf f100_ok rfl f100_n
noncomputable def e101 : EF := ⟨1, f101.sl, f101.res, simpC f101.body⟩
theorem e101_ok : EFok RT Go.Proofs.Tryz.prog 0 101 e101 := ok_sf f101_ok rfl f101_n
noncomputable def e102 : EF := ⟨2, f102.sl, f102.res, simpC f102.body⟩
theorem e102_ok : EFok RT Go.Proofs.Tryz.prog 0 102 e102 := ok_sf f102_ok rfl f102_n
noncomputable def e103 : EF := ⟨1, f103.sl, f103.res, simpC f103.body⟩
theorem e103_ok : EFok RT Go.Proofs.Tryz.prog 0 103 e103 := ok_sf f103_ok rfl f103_n
noncomputable def e104 : EF := ⟨3, f104.sl, f104.res, simpC f104.body⟩
theorem e104_ok : EFok RT Go.Proofs.Tryz.prog 0 104 e104 := ok_sf f104_ok rfl f104_n
noncomputable def e105 : EF := ⟨1, f105.sl, f105.res, simpC f105.body⟩
theorem e105_ok : EFok RT Go.Proofs.Tryz.prog 0 105 e105 := ok_sf f105_ok rfl f105_n
noncomputable def e106 : EF := ⟨1, f106.sl, f106.res, simpC f106.body⟩
theorem e106_ok : EFok RT Go.Proofs.Tryz.prog 0 106 e106 := ok_sf f106_ok rfl f106_n
noncomputable def e107 : EF := ⟨1, f107.sl, f107.res, simpC f107.body⟩
theorem e107_ok : EFok RT Go.Proofs.Tryz.prog 0 107 e107 := ok_sf f107_ok rfl f107_n
noncomputable def e108 : EF := ⟨1, f108.sl, f108.res, simpC f108.body⟩
theorem e108_ok : EFok RT Go.Proofs.Tryz.prog 0 108 e108 := ok_sf f108_ok rfl f108_n
noncomputable def e109 : EF := ⟨1, f109.sl, f109.res, simpC f109.body⟩
theorem e109_ok : EFok RT Go.Proofs.Tryz.prog 0 109 e109 := ok_sf f109_ok rfl f109_n
noncomputable def e110 : EF := ⟨1, f110.sl, f110.res, simpC f110.body⟩
theorem e110_ok : EFok RT Go.Proofs.Tryz.prog 0 110 e110 := ok_sf f110_ok rfl f110_n
noncomputable def e111 : EF := ⟨1, f111.sl, f111.res, simpC f111.body⟩
theorem e111_ok : EFok RT Go.Proofs.Tryz.prog 0 111 e111 := ok_sf f111_ok rfl f111_n
noncomputable def e112 : EF := ⟨2, f112.sl, f112.res, simpC f112.body⟩
theorem e112_ok : EFok RT Go.Proofs.Tryz.prog 0 112 e112 := ok_sf f112_ok rfl f112_n
noncomputable def e113 : EF := ⟨1, f113.sl, f113.res, simpC f113.body⟩
theorem e113_ok : EFok RT Go.Proofs.Tryz.prog 0 113 e113 := ok_sf f113_ok rfl f113_n
noncomputable def e114 : EF := ⟨1, f114.sl, f114.res, simpC f114.body⟩
theorem e114_ok : EFok RT Go.Proofs.Tryz.prog 0 114 e114 := ok_sf f114_ok rfl f114_n
noncomputable def e115 : EF := ⟨1, f115.sl, f115.res, simpC f115.body⟩
theorem e115_ok : EFok RT Go.Proofs.Tryz.prog 0 115 e115 := ok_sf f115_ok rfl f115_n
noncomputable def e116 : EF := ⟨1, f116.sl, f116.res, simpC f116.body⟩
theorem e116_ok : EFok RT Go.Proofs.Tryz.prog 0 116 e116 := ok_sf f116_ok rfl f116_n
noncomputable def e117 : EF := ⟨2, f117.sl, f117.res, simpC f117.body⟩
theorem e117_ok : EFok RT Go.Proofs.Tryz.prog 0 117 e117 := ok_sf f117_ok rfl f117_n
noncomputable def e118 : EF := ⟨2, f118.sl, f118.res, simpC f118.body⟩
theorem e118_ok : EFok RT Go.Proofs.Tryz.prog 0 118 e118 := ok_sf f118_ok rfl f118_n
noncomputable def e119 : EF := ⟨1, f119.sl, f119.res, simpC f119.body⟩
theorem e119_ok : EFok RT Go.Proofs.Tryz.prog 0 119 e119 := ok_sf f119_ok rfl f119_n
noncomputable def e120 : EF := ⟨1, f120.sl, f120.res, simpC f120.body⟩
theorem e120_ok : EFok RT Go.Proofs.Tryz.prog 0 120 e120 := ok_sf f120_ok rfl f120_n
noncomputable def e121 : EF := ⟨1, f121.sl, f121.res, simpC f121.body⟩
theorem e121_ok : EFok RT Go.Proofs.Tryz.prog 0 121 e121 := ok_sf f121_ok rfl f121_n
noncomputable def e123 : EF := ⟨2, f123.sl, f123.res, simpC f123.body⟩
theorem e123_ok : EFok RT Go.Proofs.Tryz.prog 0 123 e123 := ok_sf f123_ok rfl f123_n
noncomputable def e131 : EF := ⟨2, f131.sl, f131.res, simpC f131.body⟩
theorem e131_ok : EFok RT Go.Proofs.Tryz.prog 0 131 e131 := ok_sf f131_ok rfl f131_n
noncomputable def e132 : EF := ⟨4, f132.sl, f132.res, simpC f132.body⟩
theorem e132_ok : EFok RT Go.Proofs.Tryz.prog 0 132 e132 := ok_sf f132_ok rfl f132_n
noncomputable def e133 : EF := ⟨1, f133.sl, f133.res, simpC f133.body⟩
theorem e133_ok : EFok RT Go.Proofs.Tryz.prog 0 133 e133 := ok_sf f133_ok rfl f133_n
noncomputable def e134 : EF := ⟨3, f134.sl, f134.res, simpC f134.body⟩
theorem e134_ok : EFok RT Go.Proofs.Tryz.prog 0 134 e134 := ok_sf f134_ok rfl f134_n
noncomputable def e137 : EF := ⟨2, f137.sl, f137.res, simpC f137.body⟩
theorem e137_ok : EFok RT Go.Proofs.Tryz.prog 0 137 e137 := ok_sf f137_ok rfl f137_n
noncomputable def e138 : EF := ⟨3, f138.sl, f138.res, simpC f138.body⟩
theorem e138_ok : EFok RT Go.Proofs.Tryz.prog 0 138 e138 := ok_sf f138_ok rfl f138_n
noncomputable def e139 : EF := ⟨1, f139.sl, f139.res, simpC f139.body⟩
theorem e139_ok : EFok RT Go.Proofs.Tryz.prog 0 139 e139 := ok_sf f139_ok rfl f139_n
noncomputable def e140 : EF := ⟨4, f140.sl, f140.res, simpC f140.body⟩
theorem e140_ok : EFok RT Go.Proofs.Tryz.prog 0 140 e140 := ok_sf f140_ok rfl f140_n
noncomputable def e141 : EF := ⟨1, f141.sl, f141.res, simpC f141.body⟩
theorem e141_ok : EFok RT Go.Proofs.Tryz.prog 0 141 e141 := ok_sf f141_ok rfl f141_n
noncomputable def e142 : EF := ⟨1, f142.sl, f142.res, simpC f142.body⟩
theorem e142_ok : EFok RT Go.Proofs.Tryz.prog 0 142 e142 := ok_sf f142_ok rfl f142_n
noncomputable def e143 : EF := ⟨1, f143.sl, f143.res, simpC f143.body⟩
theorem e143_ok : EFok RT Go.Proofs.Tryz.prog 0 143 e143 := ok_sf f143_ok rfl f143_n
noncomputable def e144 : EF := ⟨1, f144.sl, f144.res, simpC f144.body⟩
theorem e144_ok : EFok RT Go.Proofs.Tryz.prog 0 144 e144 := ok_sf f144_ok rfl f144_n
noncomputable def e145 : EF := ⟨2, f145.sl, f145.res, simpC f145.body⟩
theorem e145_ok : EFok RT Go.Proofs.Tryz.prog 0 145 e145 := ok_sf f145_ok rfl f145_n
noncomputable def e146 : EF := ⟨4, f146.sl, f146.res, simpC f146.body⟩
theorem e146_ok : EFok RT Go.Proofs.Tryz.prog 0 146 e146 := ok_sf f146_ok rfl f146_n
noncomputable def e147 : EF := ⟨2, f147.sl, f147.res, simpC f147.body⟩
theorem e147_ok : EFok RT Go.Proofs.Tryz.prog 0 147 e147 := ok_sf f147_ok rfl f147_n
noncomputable def e148 : EF := ⟨1, f148.sl, f148.res, simpC f148.body⟩
theorem e148_ok : EFok RT Go.Proofs.Tryz.prog 0 148 e148 := ok_sf f148_ok rfl f148_n
noncomputable def e149 : EF := ⟨2, f149.sl, f149.res, simpC f149.body⟩
theorem e149_ok : EFok RT Go.Proofs.Tryz.prog 0 149 e149 := ok_sf f149_ok rfl f149_n
noncomputable def e150 : EF := ⟨3, f150.sl, f150.res, simpC f150.body⟩
theorem e150_ok : EFok RT Go.Proofs.Tryz.prog 0 150 e150 := ok_sf f150_ok rfl f150_n
noncomputable def e151 : EF := ⟨2, f151.sl, f151.res, simpC f151.body⟩
theorem e151_ok : EFok RT Go.Proofs.Tryz.prog 0 151 e151 := ok_sf f151_ok rfl f151_n
noncomputable def e152 : EF := ⟨2, f152.sl, f152.res, simpC f152.body⟩
theorem e152_ok : EFok RT Go.Proofs.Tryz.prog 0 152 e152 := ok_sf f152_ok rfl f152_n
noncomputable def e153 : EF := ⟨1, f153.sl, f153.res, simpC f153.body⟩
theorem e153_ok : EFok RT Go.Proofs.Tryz.prog 0 153 e153 := ok_sf f153_ok rfl f153_n
noncomputable def e154 : EF := ⟨2, f154.sl, f154.res, simpC f154.body⟩
theorem e154_ok : EFok RT Go.Proofs.Tryz.prog 0 154 e154 := ok_sf f154_ok rfl f154_n
noncomputable def e155 : EF := ⟨2, f155.sl, f155.res, simpC f155.body⟩
theorem e155_ok : EFok RT Go.Proofs.Tryz.prog 0 155 e155 := ok_sf f155_ok rfl f155_n
noncomputable def e156 : EF := ⟨1, f156.sl, f156.res, simpC f156.body⟩
theorem e156_ok : EFok RT Go.Proofs.Tryz.prog 0 156 e156 := ok_sf f156_ok rfl f156_n
noncomputable def e157 : EF := ⟨1, f157.sl, f157.res, simpC f157.body⟩
theorem e157_ok : EFok RT Go.Proofs.Tryz.prog 0 157 e157 := ok_sf f157_ok rfl f157_n
noncomputable def e158 : EF := ⟨2, f158.sl, f158.res, simpC f158.body⟩
theorem e158_ok : EFok RT Go.Proofs.Tryz.prog 0 158 e158 := ok_sf f158_ok rfl f158_n
noncomputable def e159 : EF := ⟨1, f159.sl, f159.res, simpC f159.body⟩
theorem e159_ok : EFok RT Go.Proofs.Tryz.prog 0 159 e159 := ok_sf f159_ok rfl f159_n
noncomputable def e160 : EF := ⟨2, f160.sl, f160.res, simpC f160.body⟩
theorem e160_ok : EFok RT Go.Proofs.Tryz.prog 0 160 e160 := ok_sf f160_ok rfl f160_n
noncomputable def e161 : EF := ⟨2, f161.sl, f161.res, simpC f161.body⟩
theorem e161_ok : EFok RT Go.Proofs.Tryz.prog 0 161 e161 := ok_sf f161_ok rfl f161_n
noncomputable def e162 : EF := ⟨2, f162.sl, f162.res, simpC f162.body⟩
theorem e162_ok : EFok RT Go.Proofs.Tryz.prog 0 162 e162 := ok_sf f162_ok rfl f162_n
noncomputable def e163 : EF := ⟨1, f163.sl, f163.res, simpC f163.body⟩
theorem e163_ok : EFok RT Go.Proofs.Tryz.prog 0 163 e163 := ok_sf f163_ok rfl f163_n
noncomputable def e164 : EF := ⟨1, f164.sl, f164.res, simpC f164.body⟩
theorem e164_ok : EFok RT Go.Proofs.Tryz.prog 0 164 e164 := ok_sf f164_ok rfl f164_n
noncomputable def e166 : EF := ⟨1, f166.sl, f166.res, encC f166.body 0⟩
theorem e166_ok : EFok RT Go.Proofs.Tryz.prog 0 166 e166 := ok_rf f166_ok rfl f166_n (by kernel_rfl)
noncomputable def e167 : EF := ⟨2, f167.sl, f167.res, simpC f167.body⟩
theorem e167_ok : EFok RT Go.Proofs.Tryz.prog 0 167 e167 := ok_sf f167_ok rfl f167_n
noncomputable def e168 : EF := ⟨1, f168.sl, f168.res, simpC f168.body⟩
theorem e168_ok : EFok RT Go.Proofs.Tryz.prog 0 168 e168 := ok_sf f168_ok rfl f168_n
noncomputable def e169 : EF := ⟨2, f169.sl, f169.res, simpC f169.body⟩
theorem e169_ok : EFok RT Go.Proofs.Tryz.prog 0 169 e169 := ok_sf f169_ok rfl f169_n
noncomputable def e170 : EF := ⟨3, f170.sl, f170.res, simpC f170.body⟩
theorem e170_ok : EFok RT Go.Proofs.Tryz.prog 0 170 e170 := ok_sf f170_ok rfl f170_n
noncomputable def e171 : EF := ⟨1, f171.sl, f171.res, simpC f171.body⟩
theorem e171_ok : EFok RT Go.Proofs.Tryz.prog 0 171 e171 := ok_sf f171_ok rfl f171_n
noncomputable def e172 : EF := ⟨1, f172.sl, f172.res, simpC f172.body⟩
theorem e172_ok : EFok RT Go.Proofs.Tryz.prog 0 172 e172 := ok_sf f172_ok rfl f172_n
noncomputable def e173 : EF := ⟨1, f173.sl, f173.res, simpC f173.body⟩
theorem e173_ok : EFok RT Go.Proofs.Tryz.prog 0 173 e173 := ok_sf f173_ok rfl f173_n
noncomputable def e174 : EF := ⟨2, f174.sl, f174.res, simpC f174.body⟩
theorem e174_ok : EFok RT Go.Proofs.Tryz.prog 0 174 e174 := ok_sf f174_ok rfl f174_n
noncomputable def e175 : EF := ⟨2, f175.sl, f175.res, simpC f175.body⟩
theorem e175_ok : EFok RT Go.Proofs.Tryz.prog 0 175 e175 := ok_sf f175_ok rfl f175_n
noncomputable def e176 : EF := ⟨2, f176.sl, f176.res, simpC f176.body⟩
theorem e176_ok : EFok RT Go.Proofs.Tryz.prog 0 176 e176 := ok_sf f176_ok rfl f176_n
noncomputable def e178 : EF := ⟨2, f178.sl, f178.res, simpC f178.body⟩
theorem e178_ok : EFok RT Go.Proofs.Tryz.prog 0 178 e178 := ok_sf f178_ok rfl f178_n
noncomputable def e179 : EF := ⟨2, f179.sl, f179.res, simpC f179.body⟩
theorem e179_ok : EFok RT Go.Proofs.Tryz.prog 0 179 e179 := ok_sf f179_ok rfl f179_n
noncomputable def e180 : EF := ⟨1, f180.sl, f180.res, simpC f180.body⟩
theorem e180_ok : EFok RT Go.Proofs.Tryz.prog 0 180 e180 := ok_sf f180_ok rfl f180_n
noncomputable def e181 : EF := ⟨1, f181.sl, f181.res, simpC f181.body⟩
theorem e181_ok : EFok RT Go.Proofs.Tryz.prog 0 181 e181 := ok_sf f181_ok rfl f181_n
noncomputable def e182 : EF := ⟨1, f182.sl, f182.res, simpC f182.body⟩
theorem e182_ok : EFok RT Go.Proofs.Tryz.prog 0 182 e182 := ok_sf f182_ok rfl f182_n
noncomputable def e183 : EF := ⟨1, f183.sl, f183.res, simpC f183.body⟩
theorem e183_ok : EFok RT Go.Proofs.Tryz.prog 0 183 e183 := ok_sf f183_ok rfl f183_n
noncomputable def e184 : EF := ⟨2, f184.sl, f184.res, simpC f184.body⟩
theorem e184_ok : EFok RT Go.Proofs.Tryz.prog 0 184 e184 := ok_sf f184_ok rfl f184_n
noncomputable def e185 : EF := ⟨1, f185.sl, f185.res, simpC f185.body⟩
theorem e185_ok : EFok RT Go.Proofs.Tryz.prog 0 185 e185 := ok_sf f185_ok rfl f185_n
noncomputable def e187 : EF := ⟨1, f187.sl, f187.res, simpC f187.body⟩
theorem e187_ok : EFok RT Go.Proofs.Tryz.prog 0 187 e187 := ok_sf f187_ok rfl f187_n
noncomputable def e188 : EF := ⟨1, f188.sl, f188.res, simpC f188.body⟩
theorem e188_ok : EFok RT Go.Proofs.Tryz.prog 0 188 e188 := ok_sf f188_ok rfl f188_n
noncomputable def e189 : EF := ⟨1, f189.sl, f189.res, simpC f189.body⟩
theorem e189_ok : EFok RT Go.Proofs.Tryz.prog 0 189 e189 := ok_sf f189_ok rfl f189_n
noncomputable def e192 : EF := ⟨1, f192.sl, f192.res, simpC f192.body⟩
theorem e192_ok : EFok RT Go.Proofs.Tryz.prog 0 192 e192 := ok_sf f192_ok rfl f192_n
noncomputable def e194 : EF := ⟨2, f194.sl, f194.res, simpC f194.body⟩
theorem e194_ok : EFok RT Go.Proofs.Tryz.prog 0 194 e194 := ok_sf f194_ok rfl f194_n
noncomputable def e196 : EF := ⟨4, f196.sl, f196.res, simpC f196.body⟩
theorem e196_ok : EFok RT Go.Proofs.Tryz.prog 0 196 e196 := ok_sf f196_ok rfl f196_n
noncomputable def e197 : EF := ⟨2, f197.sl, f197.res, simpC f197.body⟩
theorem e197_ok : EFok RT Go.Proofs.Tryz.prog 0 197 e197 := ok_sf f197_ok rfl f197_n
noncomputable def e198 : EF := ⟨2, f198.sl, f198.res, simpC f198.body⟩
theorem e198_ok : EFok RT Go.Proofs.Tryz.prog 0 198 e198 := ok_sf f198_ok rfl f198_n
noncomputable def e199 : EF := ⟨1, f199.sl, f199.res, simpC f199.body⟩
theorem e199_ok : EFok RT Go.Proofs.Tryz.prog 0 199 e199 := ok_sf f199_ok rfl f199_n
noncomputable def e200 : EF := ⟨2, f200.sl, f200.res, simpC f200.body⟩
theorem e200_ok : EFok RT Go.Proofs.Tryz.prog 0 200 e200 := ok_sf f200_ok rfl f200_n
noncomputable def e201 : EF := ⟨3, f201.sl, f201.res, simpC f201.body⟩
theorem e201_ok : EFok RT Go.Proofs.Tryz.prog 0 201 e201 := ok_sf f201_ok rfl f201_n
noncomputable def e203 : EF := ⟨2, f203.sl, f203.res, simpC f203.body⟩
theorem e203_ok : EFok RT Go.Proofs.Tryz.prog 0 203 e203 := ok_sf f203_ok rfl f203_n
noncomputable def e204 : EF := ⟨3, f204.sl, f204.res, simpC f204.body⟩
theorem e204_ok : EFok RT Go.Proofs.Tryz.prog 0 204 e204 := ok_sf f204_ok rfl f204_n
noncomputable def e205 : EF := ⟨2, f205.sl, f205.res, simpC f205.body⟩
theorem e205_ok : EFok RT Go.Proofs.Tryz.prog 0 205 e205 := ok_sf f205_ok rfl f205_n
noncomputable def e206 : EF := ⟨2, f206.sl, f206.res, simpC f206.body⟩
theorem e206_ok : EFok RT Go.Proofs.Tryz.prog 0 206 e206 := ok_sf f206_ok rfl f206_n
noncomputable def e207 : EF := ⟨3, f207.sl, f207.res, simpC f207.body⟩
theorem e207_ok : EFok RT Go.Proofs.Tryz.prog 0 207 e207 := ok_sf f207_ok rfl f207_n
noncomputable def e208 : EF := ⟨1, f208.sl, f208.res, simpC f208.body⟩
theorem e208_ok : EFok RT Go.Proofs.Tryz.prog 0 208 e208 := ok_sf f208_ok rfl f208_n
noncomputable def e209 : EF := ⟨3, f209.sl, f209.res, simpC f209.body⟩
theorem e209_ok : EFok RT Go.Proofs.Tryz.prog 0 209 e209 := ok_sf f209_ok rfl f209_n
noncomputable def e210 : EF := ⟨3, f210.sl, f210.res, simpC f210.body⟩
theorem e210_ok : EFok RT Go.Proofs.Tryz.prog 0 210 e210 := ok_sf f210_ok rfl f210_n
noncomputable def e211 : EF := ⟨2, f211.sl, f211.res, simpC f211.body⟩
theorem e211_ok : EFok RT Go.Proofs.Tryz.prog 0 211 e211 := ok_sf f211_ok rfl f211_n
noncomputable def e212 : EF := ⟨2, f212.sl, f212.res, simpC f212.body⟩
theorem e212_ok : EFok RT Go.Proofs.Tryz.prog 0 212 e212 := ok_sf f212_ok rfl f212_n
noncomputable def e213 : EF := ⟨2, f213.sl, f213.res, simpC f213.body⟩
theorem e213_ok : EFok RT Go.Proofs.Tryz.prog 0 213 e213 := ok_sf f213_ok rfl f213_n
noncomputable def e214 : EF := ⟨3, f214.sl, f214.res, simpC f214.body⟩
theorem e214_ok : EFok RT Go.Proofs.Tryz.prog 0 214 e214 := ok_sf f214_ok rfl f214_n
noncomputable def e215 : EF := ⟨1, f215.sl, f215.res, simpC f215.body⟩
theorem e215_ok : EFok RT Go.Proofs.Tryz.prog 0 215 e215 := ok_sf f215_ok rfl f215_n
noncomputable def e216 : EF := ⟨1, f216.sl, f216.res, simpC f216.body⟩
theorem e216_ok : EFok RT Go.Proofs.Tryz.prog 0 216 e216 := ok_sf f216_ok rfl f216_n
noncomputable def e217 : EF := ⟨1, f217.sl, f217.res, simpC f217.body⟩
theorem e217_ok : EFok RT Go.Proofs.Tryz.prog 0 217 e217 := ok_sf f217_ok rfl f217_n
noncomputable def e218 : EF := ⟨2, f218.sl, f218.res, simpC f218.body⟩
theorem e218_ok : EFok RT Go.Proofs.Tryz.prog 0 218 e218 := ok_sf f218_ok rfl f218_n
noncomputable def e219 : EF := ⟨3, f219.sl, f219.res, simpC f219.body⟩
theorem e219_ok : EFok RT Go.Proofs.Tryz.prog 0 219 e219 := ok_sf f219_ok rfl f219_n
noncomputable def e220 : EF := ⟨2, f220.sl, f220.res, simpC f220.body⟩
theorem e220_ok : EFok RT Go.Proofs.Tryz.prog 0 220 e220 := ok_sf f220_ok rfl f220_n
noncomputable def e221 : EF := ⟨1, f221.sl, f221.res, simpC f221.body⟩
theorem e221_ok : EFok RT Go.Proofs.Tryz.prog 0 221 e221 := ok_sf f221_ok rfl f221_n
noncomputable def e222 : EF := ⟨1, f222.sl, f222.res, simpC f222.body⟩
theorem e222_ok : EFok RT Go.Proofs.Tryz.prog 0 222 e222 := ok_sf f222_ok rfl f222_n
noncomputable def e223 : EF := ⟨1, f223.sl, f223.res, simpC f223.body⟩
theorem e223_ok : EFok RT Go.Proofs.Tryz.prog 0 223 e223 := ok_sf f223_ok rfl f223_n
noncomputable def e225 : EF := ⟨1, f225.sl, f225.res, simpC f225.body⟩
theorem e225_ok : EFok RT Go.Proofs.Tryz.prog 0 225 e225 := ok_sf f225_ok rfl f225_n
noncomputable def e226 : EF := ⟨3, f226.sl, f226.res, simpC f226.body⟩
theorem e226_ok : EFok RT Go.Proofs.Tryz.prog 0 226 e226 := ok_sf f226_ok rfl f226_n
noncomputable def e227 : EF := ⟨2, f227.sl, f227.res, simpC f227.body⟩
theorem e227_ok : EFok RT Go.Proofs.Tryz.prog 0 227 e227 := ok_sf f227_ok rfl f227_n
noncomputable def e228 : EF := ⟨2, f228.sl, f228.res, simpC f228.body⟩
theorem e228_ok : EFok RT Go.Proofs.Tryz.prog 0 228 e228 := ok_sf f228_ok rfl f228_n
noncomputable def e229 : EF := ⟨2, f229.sl, f229.res, simpC f229.body⟩
theorem e229_ok : EFok RT Go.Proofs.Tryz.prog 0 229 e229 := ok_sf f229_ok rfl f229_n
noncomputable def e230 : EF := ⟨1, f230.sl, f230.res, simpC f230.body⟩
theorem e230_ok : EFok RT Go.Proofs.Tryz.prog 0 230 e230 := ok_sf f230_ok rfl f230_n
noncomputable def e231 : EF := ⟨2, f231.sl, f231.res, simpC f231.body⟩
theorem e231_ok : EFok RT Go.Proofs.Tryz.prog 0 231 e231 := ok_sf f231_ok rfl f231_n
noncomputable def e232 : EF := ⟨2, f232.sl, f232.res, simpC f232.body⟩
theorem e232_ok : EFok RT Go.Proofs.Tryz.prog 0 232 e232 := ok_sf f232_ok rfl f232_n
noncomputable def e234 : EF := ⟨2, f234.sl, f234.res, simpC f234.body⟩
theorem e234_ok : EFok RT Go.Proofs.Tryz.prog 0 234 e234 := ok_sf f234_ok rfl f234_n
noncomputable def e235 : EF := ⟨2, f235.sl, f235.res, simpC f235.body⟩
theorem e235_ok : EFok RT Go.Proofs.Tryz.prog 0 235 e235 := ok_sf f235_ok rfl f235_n
noncomputable def e236 : EF := ⟨2, f236.sl, f236.res, simpC f236.body⟩
theorem e236_ok : EFok RT Go.Proofs.Tryz.prog 0 236 e236 := ok_sf f236_ok rfl f236_n
noncomputable def e238 : EF := ⟨1, f238.sl, f238.res, simpC f238.body⟩
theorem e238_ok : EFok RT Go.Proofs.Tryz.prog 0 238 e238 := ok_sf f238_ok rfl f238_n
noncomputable def e239 : EF := ⟨2, f239.sl, f239.res, encC f239.body 1⟩
theorem e239_ok : EFok RT Go.Proofs.Tryz.prog 0 239 e239 := ok_rf f239_ok rfl f239_n (by kernel_rfl)
noncomputable def e240 : EF := ⟨2, f240.sl, f240.res, simpC f240.body⟩
theorem e240_ok : EFok RT Go.Proofs.Tryz.prog 0 240 e240 := ok_sf f240_ok rfl f240_n
noncomputable def e241 : EF := ⟨1, f241.sl, f241.res, simpC f241.body⟩
theorem e241_ok : EFok RT Go.Proofs.Tryz.prog 0 241 e241 := ok_sf f241_ok rfl f241_n
noncomputable def e242 : EF := ⟨3, f242.sl, f242.res, simpC f242.body⟩
theorem e242_ok : EFok RT Go.Proofs.Tryz.prog 0 242 e242 := ok_sf f242_ok rfl f242_n
noncomputable def e243 : EF := ⟨1, f243.sl, f243.res, simpC f243.body⟩
theorem e243_ok : EFok RT Go.Proofs.Tryz.prog 0 243 e243 := ok_sf f243_ok rfl f243_n
noncomputable def e244 : EF := ⟨2, f244.sl, f244.res, simpC f244.body⟩
theorem e244_ok : EFok RT Go.Proofs.Tryz.prog 0 244 e244 := ok_sf f244_ok rfl f244_n
noncomputable def e245 : EF := ⟨2, f245.sl, f245.res, simpC f245.body⟩
theorem e245_ok : EFok RT Go.Proofs.Tryz.prog 0 245 e245 := ok_sf f245_ok rfl f245_n
noncomputable def e246 : EF := ⟨1, f246.sl, f246.res, simpC f246.body⟩
theorem e246_ok : EFok RT Go.Proofs.Tryz.prog 0 246 e246 := ok_sf f246_ok rfl f246_n
noncomputable def e247 : EF := ⟨2, f247.sl, f247.res, simpC f247.body⟩
theorem e247_ok : EFok RT Go.Proofs.Tryz.prog 0 247 e247 := ok_sf f247_ok rfl f247_n
noncomputable def e248 : EF := ⟨1, f248.sl, f248.res, simpC f248.body⟩
theorem e248_ok : EFok RT Go.Proofs.Tryz.prog 0 248 e248 := ok_sf f248_ok rfl f248_n
noncomputable def e250 : EF := ⟨1, f250.sl, f250.res, simpC f250.body⟩
theorem e250_ok : EFok RT Go.Proofs.Tryz.prog 0 250 e250 := ok_sf f250_ok rfl f250_n
noncomputable def e251 : EF := ⟨2, f251.sl, f251.res, simpC f251.body⟩
theorem e251_ok : EFok RT Go.Proofs.Tryz.prog 0 251 e251 := ok_sf f251_ok rfl f251_n
noncomputable def e252 : EF := ⟨2, f252.sl, f252.res, simpC f252.body⟩
theorem e252_ok : EFok RT Go.Proofs.Tryz.prog 0 252 e252 := ok_sf f252_ok rfl f252_n
noncomputable def e253 : EF := ⟨2, f253.sl, f253.res, simpC f253.body⟩
theorem e253_ok : EFok RT Go.Proofs.Tryz.prog 0 253 e253 := ok_sf f253_ok rfl f253_n
noncomputable def e254 : EF := ⟨1, f254.sl, f254.res, simpC f254.body⟩
theorem e254_ok : EFok RT Go.Proofs.Tryz.prog 0 254 e254 := ok_sf f254_ok rfl f254_n
noncomputable def e255 : EF := ⟨2, f255.sl, f255.res, simpC f255.body⟩
theorem e255_ok : EFok RT Go.Proofs.Tryz.prog 0 255 e255 := ok_sf f255_ok rfl f255_n
noncomputable def e257 : EF := ⟨2, f257.sl, f257.res, simpC f257.body⟩
theorem e257_ok : EFok RT Go.Proofs.Tryz.prog 0 257 e257 := ok_sf f257_ok rfl f257_n
noncomputable def e258 : EF := ⟨1, f258.sl, f258.res, simpC f258.body⟩
theorem e258_ok : EFok RT Go.Proofs.Tryz.prog 0 258 e258 := ok_sf f258_ok rfl f258_n
noncomputable def e259 : EF := ⟨1, f259.sl, f259.res, simpC f259.body⟩
theorem e259_ok : EFok RT Go.Proofs.Tryz.prog 0 259 e259 := ok_sf f259_ok rfl f259_n
noncomputable def e260 : EF := ⟨2, f260.sl, f260.res, simpC f260.body⟩
theorem e260_ok : EFok RT Go.Proofs.Tryz.prog 0 260 e260 := ok_sf f260_ok rfl f260_n
noncomputable def e261 : EF := ⟨2, f261.sl, f261.res, simpC f261.body⟩
theorem e261_ok : EFok RT Go.Proofs.Tryz.prog 0 261 e261 := ok_sf f261_ok rfl f261_n
noncomputable def e262 : EF := ⟨1, f262.sl, f262.res, simpC f262.body⟩
theorem e262_ok : EFok RT Go.Proofs.Tryz.prog 0 262 e262 := ok_sf f262_ok rfl f262_n
noncomputable def e263 : EF := ⟨3, f263.sl, f263.res, simpC f263.body⟩
theorem e263_ok : EFok RT Go.Proofs.Tryz.prog 0 263 e263 := ok_sf f263_ok rfl f263_n
noncomputable def e264 : EF := ⟨2, f264.sl, f264.res, simpC f264.body⟩
theorem e264_ok : EFok RT Go.Proofs.Tryz.prog 0 264 e264 := ok_sf f264_ok rfl f264_n
noncomputable def e265 : EF := ⟨2, f265.sl, f265.res, simpC f265.body⟩
theorem e265_ok : EFok RT Go.Proofs.Tryz.prog 0 265 e265 := ok_sf f265_ok rfl f265_n
noncomputable def e266 : EF := ⟨1, f266.sl, f266.res, simpC f266.body⟩
theorem e266_ok : EFok RT Go.Proofs.Tryz.prog 0 266 e266 := ok_sf f266_ok rfl f266_n
noncomputable def e267 : EF := ⟨2, f267.sl, f267.res, simpC f267.body⟩
theorem e267_ok : EFok RT Go.Proofs.Tryz.prog 0 267 e267 := ok_sf f267_ok rfl f267_n
noncomputable def e268 : EF := ⟨1, f268.sl, f268.res, simpC f268.body⟩
theorem e268_ok : EFok RT Go.Proofs.Tryz.prog 0 268 e268 := ok_sf f268_ok rfl f268_n
noncomputable def e269 : EF := ⟨4, f269.sl, f269.res, simpC f269.body⟩
theorem e269_ok : EFok RT Go.Proofs.Tryz.prog 0 269 e269 := ok_sf f269_ok rfl f269_n
noncomputable def e270 : EF := ⟨1, f270.sl, f270.res, simpC f270.body⟩
theorem e270_ok : EFok RT Go.Proofs.Tryz.prog 0 270 e270 := ok_sf f270_ok rfl f270_n
noncomputable def e271 : EF := ⟨2, f271.sl, f271.res, simpC f271.body⟩
theorem e271_ok : EFok RT Go.Proofs.Tryz.prog 0 271 e271 := ok_sf f271_ok rfl f271_n
noncomputable def e272 : EF := ⟨2, f272.sl, f272.res, simpC f272.body⟩
theorem e272_ok : EFok RT Go.Proofs.Tryz.prog 0 272 e272 := ok_sf f272_ok rfl f272_n
noncomputable def e273 : EF := ⟨3, f273.sl, f273.res, simpC f273.body⟩
theorem e273_ok : EFok RT Go.Proofs.Tryz.prog 0 273 e273 := ok_sf f273_ok rfl f273_n
noncomputable def e274 : EF := ⟨1, f274.sl, f274.res, simpC f274.body⟩
theorem e274_ok : EFok RT Go.Proofs.Tryz.prog 0 274 e274 := ok_sf f274_ok rfl f274_n
noncomputable def e275 : EF := ⟨1, f275.sl, f275.res, simpC f275.body⟩
theorem e275_ok : EFok RT Go.Proofs.Tryz.prog 0 275 e275 := ok_sf f275_ok rfl f275_n
noncomputable def e278 : EF := ⟨1, f278.sl, f278.res, simpC f278.body⟩
theorem e278_ok : EFok RT Go.Proofs.Tryz.prog 0 278 e278 := ok_sf f278_ok rfl f278_n
noncomputable def e279 : EF := ⟨2, f279.sl, f279.res, simpC f279.body⟩
theorem e279_ok : EFok RT Go.Proofs.Tryz.prog 0 279 e279 := ok_sf f279_ok rfl f279_n
noncomputable def e280 : EF := ⟨2, f280.sl, f280.res, simpC f280.body⟩
theorem e280_ok : EFok RT Go.Proofs.Tryz.prog 0 280 e280 := ok_sf f280_ok rfl f280_n
noncomputable def e281 : EF := ⟨2, f281.sl, f281.res, simpC f281.body⟩
theorem e281_ok : EFok RT Go.Proofs.Tryz.prog 0 281 e281 := ok_sf f281_ok rfl f281_n
noncomputable def e282 : EF := ⟨1, f282.sl, f282.res, simpC f282.body⟩
theorem e282_ok : EFok RT Go.Proofs.Tryz.prog 0 282 e282 := ok_sf f282_ok rfl f282_n
noncomputable def e283 : EF := ⟨3, f283.sl, f283.res, simpC f283.body⟩
theorem e283_ok : EFok RT Go.Proofs.Tryz.prog 0 283 e283 := ok_sf f283_ok rfl f283_n
noncomputable def e284 : EF := ⟨2, f284.sl, f284.res, simpC f284.body⟩
theorem e284_ok : EFok RT Go.Proofs.Tryz.prog 0 284 e284 := ok_sf f284_ok rfl f284_n
noncomputable def e286 : EF := ⟨2, f286.sl, f286.res, simpC f286.body⟩
theorem e286_ok : EFok RT Go.Proofs.Tryz.prog 0 286 e286 := ok_sf f286_ok rfl f286_n
noncomputable def e289 : EF := ⟨2, f289.sl, f289.res, simpC f289.body⟩
theorem e289_ok : EFok RT Go.Proofs.Tryz.prog 0 289 e289 := ok_sf f289_ok rfl f289_n
noncomputable def e290 : EF := ⟨1, f290.sl, f290.res, simpC f290.body⟩
theorem e290_ok : EFok RT Go.Proofs.Tryz.prog 0 290 e290 := ok_sf f290_ok rfl f290_n
noncomputable def e294 : EF := ⟨1, f294.sl, f294.res, simpC f294.body⟩
theorem e294_ok : EFok RT Go.Proofs.Tryz.prog 0 294 e294 := ok_sf f294_ok rfl f294_n
noncomputable def e295 : EF := ⟨1, f295.sl, f295.res, simpC f295.body⟩
theorem e295_ok : EFok RT Go.Proofs.Tryz.prog 0 295 e295 := ok_sf f295_ok rfl f295_n
noncomputable def e296 : EF := ⟨3, f296.sl, f296.res, simpC f296.body⟩
theorem e296_ok : EFok RT Go.Proofs.Tryz.prog 0 296 e296 := ok_sf f296_ok rfl f296_n
noncomputable def e297 : EF := ⟨1, f297.sl, f297.res, simpC f297.body⟩
theorem e297_ok : EFok RT Go.Proofs.Tryz.prog 0 297 e297 := ok_sf f297_ok rfl f297_n
noncomputable def e298 : EF := ⟨2, f298.sl, f298.res, simpC f298.body⟩
theorem e298_ok : EFok RT Go.Proofs.Tryz.prog 0 298 e298 := ok_sf f298_ok rfl f298_n
noncomputable def e299 : EF := ⟨2, f299.sl, f299.res, simpC f299.body⟩
theorem e299_ok : EFok RT Go.Proofs.Tryz.prog 0 299 e299 := ok_sf f299_ok rfl f299_n
noncomputable def e300 : EF := ⟨1, f300.sl, f300.res, simpC f300.body⟩
theorem e300_ok : EFok RT Go.Proofs.Tryz.prog 0 300 e300 := ok_sf f300_ok rfl f300_n
noncomputable def e301 : EF := ⟨1, f301.sl, f301.res, simpC f301.body⟩
theorem e301_ok : EFok RT Go.Proofs.Tryz.prog 0 301 e301 := ok_sf f301_ok rfl f301_n
noncomputable def e304 : EF := ⟨2, f304.sl, f304.res, simpC f304.body⟩
theorem e304_ok : EFok RT Go.Proofs.Tryz.prog 0 304 e304 := ok_sf f304_ok rfl f304_n
noncomputable def e305 : EF := ⟨1, f305.sl, f305.res, simpC f305.body⟩
theorem e305_ok : EFok RT Go.Proofs.Tryz.prog 0 305 e305 := ok_sf f305_ok rfl f305_n
noncomputable def e306 : EF := ⟨1, f306.sl, f306.res, simpC f306.body⟩
theorem e306_ok : EFok RT Go.Proofs.Tryz.prog 0 306 e306 := ok_sf f306_ok rfl f306_n
noncomputable def e307 : EF := ⟨1, f307.sl, f307.res, simpC f307.body⟩
theorem e307_ok : EFok RT Go.Proofs.Tryz.prog 0 307 e307 := ok_sf f307_ok rfl f307_n
noncomputable def e308 : EF := ⟨2, f308.sl, f308.res, simpC f308.body⟩
theorem e308_ok : EFok RT Go.Proofs.Tryz.prog 0 308 e308 := ok_sf f308_ok rfl f308_n
noncomputable def e310 : EF := ⟨1, f310.sl, f310.res, simpC f310.body⟩
theorem e310_ok : EFok RT Go.Proofs.Tryz.prog 0 310 e310 := ok_sf f310_ok rfl f310_n
noncomputable def e314 : EF := ⟨1, f314.sl, f314.res, simpC f314.body⟩
theorem e314_ok : EFok RT Go.Proofs.Tryz.prog 0 314 e314 := ok_sf f314_ok rfl f314_n
noncomputable def e316 : EF := ⟨2, f316.sl, f316.res, simpC f316.body⟩
theorem e316_ok : EFok RT Go.Proofs.Tryz.prog 0 316 e316 := ok_sf f316_ok rfl f316_n
noncomputable def e317 : EF := ⟨2, f317.sl, f317.res, simpC f317.body⟩
theorem e317_ok : EFok RT Go.Proofs.Tryz.prog 0 317 e317 := ok_sf f317_ok rfl f317_n
noncomputable def e318 : EF := ⟨1, f318.sl, f318.res, simpC f318.body⟩
theorem e318_ok : EFok RT Go.Proofs.Tryz.prog 0 318 e318 := ok_sf f318_ok rfl f318_n
noncomputable def e319 : EF := ⟨2, f319.sl, f319.res, simpC f319.body⟩
theorem e319_ok : EFok RT Go.Proofs.Tryz.prog 0 319 e319 := ok_sf f319_ok rfl f319_n
noncomputable def e320 : EF := ⟨1, f320.sl, f320.res, simpC f320.body⟩
theorem e320_ok : EFok RT Go.Proofs.Tryz.prog 0 320 e320 := ok_sf f320_ok rfl f320_n
noncomputable def e321 : EF := ⟨2, f321.sl, f321.res, simpC f321.body⟩
theorem e321_ok : EFok RT Go.Proofs.Tryz.prog 0 321 e321 := ok_sf f321_ok rfl f321_n
noncomputable def e323 : EF := ⟨2, f323.sl, f323.res, simpC f323.body⟩
theorem e323_ok : EFok RT Go.Proofs.Tryz.prog 0 323 e323 := ok_sf f323_ok rfl f323_n
noncomputable def e329 : EF := ⟨1, f329.sl, f329.res, simpC f329.body⟩
theorem e329_ok : EFok RT Go.Proofs.Tryz.prog 0 329 e329 := ok_sf f329_ok rfl f329_n
noncomputable def e330 : EF := ⟨2, f330.sl, f330.res, simpC f330.body⟩
theorem e330_ok : EFok RT Go.Proofs.Tryz.prog 0 330 e330 := ok_sf f330_ok rfl f330_n
noncomputable def e331 : EF := ⟨0, f331.sl, f331.res, simpC f331.body⟩
theorem e331_ok : EFok RT Go.Proofs.Tryz.prog 0 331 e331 := ok_sf f331_ok rfl f331_n
noncomputable def e332 : EF := ⟨1, f332.sl, f332.res, simpC f332.body⟩
theorem e332_ok : EFok RT Go.Proofs.Tryz.prog 0 332 e332 := ok_sf f332_ok rfl f332_n
noncomputable def e333 : EF := ⟨2, f333.sl, f333.res, simpC f333.body⟩
theorem e333_ok : EFok RT Go.Proofs.Tryz.prog 0 333 e333 := ok_sf f333_ok rfl f333_n
noncomputable def e334 : EF := ⟨1, f334.sl, f334.res, simpC f334.body⟩
theorem e334_ok : EFok RT Go.Proofs.Tryz.prog 0 334 e334 := ok_sf f334_ok rfl f334_n
noncomputable def e336 : EF := ⟨1, f336.sl, f336.res, simpC f336.body⟩
theorem e336_ok : EFok RT Go.Proofs.Tryz.prog 0 336 e336 := ok_sf f336_ok rfl f336_n
noncomputable def e338 : EF := ⟨1, f338.sl, f338.res, simpC f338.body⟩
theorem e338_ok : EFok RT Go.Proofs.Tryz.prog 0 338 e338 := ok_sf f338_ok rfl f338_n
noncomputable def e339 : EF := ⟨1, f339.sl, f339.res, simpC f339.body⟩
theorem e339_ok : EFok RT Go.Proofs.Tryz.prog 0 339 e339 := ok_sf f339_ok rfl f339_n
noncomputable def e343 : EF := ⟨2, f343.sl, f343.res, simpC f343.body⟩
theorem e343_ok : EFok RT Go.Proofs.Tryz.prog 0 343 e343 := ok_sf f343_ok rfl f343_n
noncomputable def e344 : EF := ⟨2, f344.sl, f344.res, simpC f344.body⟩
theorem e344_ok : EFok RT Go.Proofs.Tryz.prog 0 344 e344 := ok_sf f344_ok rfl f344_n
noncomputable def e362 : EF := ⟨3, f362.sl, f362.res, simpC f362.body⟩
theorem e362_ok : EFok RT Go.Proofs.Tryz.prog 0 362 e362 := ok_sf f362_ok rfl f362_n
noncomputable def e363 : EF := ⟨2, f363.sl, f363.res, simpC f363.body⟩
theorem e363_ok : EFok RT Go.Proofs.Tryz.prog 0 363 e363 := ok_sf f363_ok rfl f363_n
noncomputable def e364 : EF := ⟨2, f364.sl, f364.res, simpC f364.body⟩
theorem e364_ok : EFok RT Go.Proofs.Tryz.prog 0 364 e364 := ok_sf f364_ok rfl f364_n
noncomputable def e365 : EF := ⟨2, f365.sl, f365.res, simpC f365.body⟩
theorem e365_ok : EFok RT Go.Proofs.Tryz.prog 0 365 e365 := ok_sf f365_ok rfl f365_n
noncomputable def e366 : EF := ⟨2, f366.sl, f366.res, simpC f366.body⟩
theorem e366_ok : EFok RT Go.Proofs.Tryz.prog 0 366 e366 := ok_sf f366_ok rfl f366_n
noncomputable def e367 : EF := ⟨2, f367.sl, f367.res, simpC f367.body⟩
theorem e367_ok : EFok RT Go.Proofs.Tryz.prog 0 367 e367 := ok_sf f367_ok rfl f367_n
noncomputable def e370 : EF := ⟨2, f370.sl, f370.res, simpC f370.body⟩
theorem e370_ok : EFok RT Go.Proofs.Tryz.prog 0 370 e370 := ok_sf f370_ok rfl f370_n
noncomputable def e371 : EF := ⟨2, f371.sl, f371.res, simpC f371.body⟩
theorem e371_ok : EFok RT Go.Proofs.Tryz.prog 0 371 e371 := ok_sf f371_ok rfl f371_n
noncomputable def e372 : EF := ⟨1, f372.sl, f372.res, simpC f372.body⟩
theorem e372_ok : EFok RT Go.Proofs.Tryz.prog 0 372 e372 := ok_sf f372_ok rfl f372_n
noncomputable def e373 : EF := ⟨3, f373.sl, f373.res, simpC f373.body⟩
theorem e373_ok : EFok RT Go.Proofs.Tryz.prog 0 373 e373 := ok_sf f373_ok rfl f373_n
noncomputable def e375 : EF := ⟨2, f375.sl, f375.res, simpC f375.body⟩
theorem e375_ok : EFok RT Go.Proofs.Tryz.prog 0 375 e375 := ok_sf f375_ok rfl f375_n
noncomputable def e376 : EF := ⟨2, f376.sl, f376.res, simpC f376.body⟩
theorem e376_ok : EFok RT Go.Proofs.Tryz.prog 0 376 e376 := ok_sf f376_ok rfl f376_n
noncomputable def e377 : EF := ⟨3, f377.sl, f377.res, simpC f377.body⟩
theorem e377_ok : EFok RT Go.Proofs.Tryz.prog 0 377 e377 := ok_sf f377_ok rfl f377_n
noncomputable def e378 : EF := ⟨2, f378.sl, f378.res, simpC f378.body⟩
theorem e378_ok : EFok RT Go.Proofs.Tryz.prog 0 378 e378 := ok_sf f378_ok rfl f378_n
noncomputable def e379 : EF := ⟨2, f379.sl, f379.res, simpC f379.body⟩
theorem e379_ok : EFok RT Go.Proofs.Tryz.prog 0 379 e379 := ok_sf f379_ok rfl f379_n
noncomputable def e380 : EF := ⟨2, f380.sl, f380.res, simpC f380.body⟩
theorem e380_ok : EFok RT Go.Proofs.Tryz.prog 0 380 e380 := ok_sf f380_ok rfl f380_n
noncomputable def e381 : EF := ⟨2, f381.sl, f381.res, simpC f381.body⟩
theorem e381_ok : EFok RT Go.Proofs.Tryz.prog 0 381 e381 := ok_sf f381_ok rfl f381_n
noncomputable def e382 : EF := ⟨4, f382.sl, f382.res, simpC f382.body⟩
theorem e382_ok : EFok RT Go.Proofs.Tryz.prog 0 382 e382 := ok_sf f382_ok rfl f382_n
noncomputable def e383 : EF := ⟨2, f383.sl, f383.res, simpC f383.body⟩
theorem e383_ok : EFok RT Go.Proofs.Tryz.prog 0 383 e383 := ok_sf f383_ok rfl f383_n
noncomputable def e384 : EF := ⟨3, f384.sl, f384.res, simpC f384.body⟩
theorem e384_ok : EFok RT Go.Proofs.Tryz.prog 0 384 e384 := ok_sf f384_ok rfl f384_n
noncomputable def e385 : EF := ⟨3, f385.sl, f385.res, simpC f385.body⟩
theorem e385_ok : EFok RT Go.Proofs.Tryz.prog 0 385 e385 := ok_sf f385_ok rfl f385_n
noncomputable def e386 : EF := ⟨2, f386.sl, f386.res, simpC f386.body⟩
theorem e386_ok : EFok RT Go.Proofs.Tryz.prog 0 386 e386 := ok_sf f386_ok rfl f386_n
noncomputable def e387 : EF := ⟨2, f387.sl, f387.res, simpC f387.body⟩
theorem e387_ok : EFok RT Go.Proofs.Tryz.prog 0 387 e387 := ok_sf f387_ok rfl f387_n
noncomputable def e388 : EF := ⟨1, f388.sl, f388.res, simpC f388.body⟩
theorem e388_ok : EFok RT Go.Proofs.Tryz.prog 0 388 e388 := ok_sf f388_ok rfl f388_n
noncomputable def e389 : EF := ⟨4, f389.sl, f389.res, simpC f389.body⟩
theorem e389_ok : EFok RT Go.Proofs.Tryz.prog 0 389 e389 := ok_sf f389_ok rfl f389_n
noncomputable def e390 : EF := ⟨2, f390.sl, f390.res, simpC f390.body⟩
theorem e390_ok : EFok RT Go.Proofs.Tryz.prog 0 390 e390 := ok_sf f390_ok rfl f390_n
noncomputable def e391 : EF := ⟨3, f391.sl, f391.res, simpC f391.body⟩
theorem e391_ok : EFok RT Go.Proofs.Tryz.prog 0 391 e391 := ok_sf f391_ok rfl f391_n
noncomputable def e392 : EF := ⟨1, f392.sl, f392.res, simpC f392.body⟩
theorem e392_ok : EFok RT Go.Proofs.Tryz.prog 0 392 e392 := ok_sf f392_ok rfl f392_n
noncomputable def e393 : EF := ⟨1, f393.sl, f393.res, simpC f393.body⟩
theorem e393_ok : EFok RT Go.Proofs.Tryz.prog 0 393 e393 := ok_sf f393_ok rfl f393_n
noncomputable def e394 : EF := ⟨3, f394.sl, f394.res, simpC f394.body⟩
theorem e394_ok : EFok RT Go.Proofs.Tryz.prog 0 394 e394 := ok_sf f394_ok rfl f394_n
noncomputable def e395 : EF := ⟨1, f395.sl, f395.res, simpC f395.body⟩
theorem e395_ok : EFok RT Go.Proofs.Tryz.prog 0 395 e395 := ok_sf f395_ok rfl f395_n
noncomputable def e396 : EF := ⟨2, f396.sl, f396.res, encC f396.body 2⟩
theorem e396_ok : EFok RT Go.Proofs.Tryz.prog 0 396 e396 := ok_rf f396_ok rfl f396_n (by kernel_rfl)
noncomputable def e397 : EF := ⟨1, f397.sl, f397.res, simpC f397.body⟩
theorem e397_ok : EFok RT Go.Proofs.Tryz.prog 0 397 e397 := ok_sf f397_ok rfl f397_n
noncomputable def e398 : EF := ⟨1, f398.sl, f398.res, simpC f398.body⟩
theorem e398_ok : EFok RT Go.Proofs.Tryz.prog 0 398 e398 := ok_sf f398_ok rfl f398_n
noncomputable def e399 : EF := ⟨2, f399.sl, f399.res, encC f399.body 3⟩
theorem e399_ok : EFok RT Go.Proofs.Tryz.prog 0 399 e399 := ok_rf f399_ok rfl f399_n (by kernel_rfl)
noncomputable def e400 : EF := ⟨2, f400.sl, f400.res, simpC f400.body⟩
theorem e400_ok : EFok RT Go.Proofs.Tryz.prog 0 400 e400 := ok_sf f400_ok rfl f400_n
noncomputable def tab : Ev.FT := (.meth 318 "Step" 377 (.meth 318 "Right" 376 (.meth 124 "Step" 362 (.meth 124 "Right" 117 (.node 187 e187 (.node 93 e93 (.node 48 e48 (.node 23 e23 (.node 13 e13 (.node 8 e8 (.node 5 e5 (.node 4 e4 (.node 3 e3 .leaf .leaf) .leaf) (.node 7 e7 (.node 6 e6 .leaf .leaf) .leaf)) (.node 11 e11 (.node 10 e10 (.node 9 e9 .leaf .leaf) .leaf) (.node 12 e12 .leaf .leaf))) (.node 18 e18 (.node 16 e16 (.node 15 e15 (.node 14 e14 .leaf .leaf) .leaf) (.node 17 e17 .leaf .leaf)) (.node 21 e21 (.node 20 e20 (.node 19 e19 .leaf .leaf) .leaf) (.node 22 e22 .leaf .leaf)))) (.node 33 e33 (.node 28 e28 (.node 26 e26 (.node 25 e25 (.node 24 e24 .leaf .leaf) .leaf) (.node 27 e27 .leaf .leaf)) (.node 31 e31 (.node 30 e30 (.node 29 e29 .leaf .leaf) .leaf) (.node 32 e32 .leaf .leaf))) (.node 43 e43 (.node 39 e39 (.node 38 e38 (.node 37 e37 .leaf .leaf) .leaf) (.node 42 e42 .leaf .leaf)) (.node 46 e46 (.node 45 e45 (.node 44 e44 .leaf .leaf) .leaf) (.node 47 e47 .leaf .leaf))))) (.node 69 e69 (.node 59 e59 (.node 53 e53 (.node 51 e51 (.node 50 e50 (.node 49 e49 .leaf .leaf) .leaf) (.node 52 e52 .leaf .leaf)) (.node 56 e56 (.node 55 e55 (.node 54 e54 .leaf .leaf) .leaf) (.node 57 e57 .leaf .leaf))) (.node 64 e64 (.node 62 e62 (.node 61 e61 (.node 60 e60 .leaf .leaf) .leaf) (.node 63 e63 .leaf .leaf)) (.node 67 e67 (.node 66 e66 (.node 65 e65 .leaf .leaf) .leaf) (.node 68 e68 .leaf .leaf)))) (.node 83 e83 (.node 74 e74 (.node 72 e72 (.node 71 e71 (.node 70 e70 .leaf .leaf) .leaf) (.node 73 e73 .leaf .leaf)) (.node 77 e77 (.node 76 e76 (.node 75 e75 .leaf .leaf) .leaf) (.node 78 e78 .leaf .leaf))) (.node 88 e88 (.node 86 e86 (.node 85 e85 (.node 84 e84 .leaf .leaf) .leaf) (.node 87 e87 .leaf .leaf)) (.node 91 e91 (.node 90 e90 (.node 89 e89 .leaf .leaf) .leaf) (.node 92 e92 .leaf .leaf)))))) (.node 144 e144 (.node 114 e114 (.node 104 e104 (.node 99 e99 (.node 96 e96 (.node 95 e95 (.node 94 e94 .leaf .leaf) .leaf) (.node 98 e98 (.node 97 e97 .leaf .leaf) .leaf)) (.node 102 e102 (.node 101 e101 (.node 100 e100 .leaf .leaf) .leaf) (.node 103 e103 .leaf .leaf))) (.node 109 e109 (.node 107 e107 (.node 106 e106 (.node 105 e105 .leaf .leaf) .leaf) (.node 108 e108 .leaf .leaf)) (.node 112 e112 (.node 111 e111 (.node 110 e110 .leaf .leaf) .leaf) (.node 113 e113 .leaf .leaf)))) (.node 132 e132 (.node 119 e119 (.node 117 e117 (.node 116 e116 (.node 115 e115 .leaf .leaf) .leaf) (.node 118 e118 .leaf .leaf)) (.node 123 e123 (.node 121 e121 (.node 120 e120 .leaf .leaf) .leaf) (.node 131 e131 .leaf .leaf))) (.node 139 e139 (.node 137 e137 (.node 134 e134 (.node 133 e133 .leaf .leaf) .leaf) (.node 138 e138 .leaf .leaf)) (.node 142 e142 (.node 141 e141 (.node 140 e140 .leaf .leaf) .leaf) (.node 143 e143 .leaf .leaf))))) (.node 164 e164 (.node 154 e154 (.node 149 e149 (.node 147 e147 (.node 146 e146 (.node 145 e145 .leaf .leaf) .leaf) (.node 148 e148 .leaf .leaf)) (.node 152 e152 (.node 151 e151 (.node 150 e150 .leaf .leaf) .leaf) (.node 153 e153 .leaf .leaf))) (.node 159 e159 (.node 157 e157 (.node 156 e156 (.node 155 e155 .leaf .leaf) .leaf) (.node 158 e158 .leaf .leaf)) (.node 162 e162 (.node 161 e161 (.node 160 e160 .leaf .leaf) .leaf) (.node 163 e163 .leaf .leaf)))) (.node 175 e175 (.node 170 e170 (.node 168 e168 (.node 167 e167 (.node 166 e166 .leaf .leaf) .leaf) (.node 169 e169 .leaf .leaf)) (.node 173 e173 (.node 172 e172 (.node 171 e171 .leaf .leaf) .leaf) (.node 174 e174 .leaf .leaf))) (.node 181 e181 (.node 179 e179 (.node 178 e178 (.node 176 e176 .leaf .leaf) .leaf) (.node 180 e180 .leaf .leaf)) (.node 184 e184 (.node 183 e183 (.node 182 e182 .leaf .leaf) .leaf) (.node 185 e185 .leaf .leaf))))))) (.node 279 e279 (.node 235 e235 (.node 213 e213 (.node 203 e203 (.node 197 e197 (.node 192 e192 (.node 189 e189 (.node 188 e188 .leaf .leaf) .leaf) (.node 196 e196 (.node 194 e194 .leaf .leaf) .leaf)) (.node 200 e200 (.node 199 e199 (.node 198 e198 .leaf .leaf) .leaf) (.node 201 e201 .leaf .leaf))) (.node 208 e208 (.node 206 e206 (.node 205 e205 (.node 204 e204 .leaf .leaf) .leaf) (.node 207 e207 .leaf .leaf)) (.node 211 e211 (.node 210 e210 (.node 209 e209 .leaf .leaf) .leaf) (.node 212 e212 .leaf .leaf)))) (.node 223 e223 (.node 218 e218 (.node 216 e216 (.node 215 e215 (.node 214 e214 .leaf .leaf) .leaf) (.node 217 e217 .leaf .leaf)) (.node 221 e221 (.node 220 e220 (.node 219 e219 .leaf .leaf) .leaf) (.node 222 e222 .leaf .leaf))) (.node 229 e229 (.node 227 e227 (.node 226 e226 (.node 225 e225 .leaf .leaf) .leaf) (.node 228 e228 .leaf .leaf)) (.node 232 e232 (.node 231 e231 (.node 230 e230 .leaf .leaf) .leaf) (.node 234 e234 .leaf .leaf))))) (.node 257 e257 (.node 246 e246 (.node 241 e241 (.node 239 e239 (.node 238 e238 (.node 236 e236 .leaf .leaf) .leaf) (.node 240 e240 .leaf .leaf)) (.node 244 e244 (.node 243 e243 (.node 242 e242 .leaf .leaf) .leaf) (.node 245 e245 .leaf .leaf))) (.node 251 e251 (.hook 249 sumH (.node 248 e248 (.node 247 e247 .leaf .leaf) .leaf) (.node 250 e250 .leaf .leaf)) (.node 254 e254 (.node 253 e253 (.node 252 e252 .leaf .leaf) .leaf) (.node 255 e255 .leaf .leaf)))) (.node 267 e267 (.node 262 e262 (.node 260 e260 (.node 259 e259 (.node 258 e258 .leaf .leaf) .leaf) (.node 261 e261 .leaf .leaf)) (.node 265 e265 (.node 264 e264 (.node 263 e263 .leaf .leaf) .leaf) (.node 266 e266 .leaf .leaf))) (.node 272 e272 (.node 270 e270 (.node 269 e269 (.node 268 e268 .leaf .leaf) .leaf) (.node 271 e271 .leaf .leaf)) (.node 275 e275 (.node 274 e274 (.node 273 e273 .leaf .leaf) .leaf) (.node 278 e278 .leaf .leaf)))))) (.node 338 e338 (.node 306 e306 (.node 294 e294 (.node 284 e284 (.node 282 e282 (.node 281 e281 (.node 280 e280 .leaf .leaf) .leaf) (.node 283 e283 .leaf .leaf)) (.node 290 e290 (.node 289 e289 (.node 286 e286 .leaf .leaf) .leaf) (.hook 292 cntH .leaf .leaf))) (.node 299 e299 (.node 297 e297 (.node 296 e296 (.node 295 e295 .leaf .leaf) .leaf) (.node 298 e298 .leaf .leaf)) (.node 304 e304 (.node 301 e301 (.node 300 e300 .leaf .leaf) .leaf) (.node 305 e305 .leaf .leaf)))) (.node 320 e320 (.node 314 e314 (.node 310 e310 (.node 308 e308 (.node 307 e307 .leaf .leaf) .leaf) (.hookR 311 (toldH pfs) .leaf .leaf)) (.node 318 e318 (.node 317 e317 (.node 316 e316 .leaf .leaf) .leaf) (.node 319 e319 .leaf .leaf))) (.node 331 e331 (.node 329 e329 (.node 323 e323 (.node 321 e321 .leaf .leaf) .leaf) (.node 330 e330 .leaf .leaf)) (.node 334 e334 (.node 333 e333 (.node 332 e332 .leaf .leaf) .leaf) (.node 336 e336 .leaf .leaf))))) (.node 381 e381 (.node 370 e370 (.node 363 e363 (.node 344 e344 (.node 343 e343 (.node 339 e339 .leaf .leaf) .leaf) (.node 362 e362 .leaf .leaf)) (.node 366 e366 (.node 365 e365 (.node 364 e364 .leaf .leaf) .leaf) (.node 367 e367 .leaf .leaf))) (.node 376 e376 (.node 373 e373 (.node 372 e372 (.node 371 e371 .leaf .leaf) .leaf) (.node 375 e375 .leaf .leaf)) (.node 379 e379 (.node 378 e378 (.node 377 e377 .leaf .leaf) .leaf) (.node 380 e380 .leaf .leaf)))) (.node 391 e391 (.node 386 e386 (.node 384 e384 (.node 383 e383 (.node 382 e382 .leaf .leaf) .leaf) (.node 385 e385 .leaf .leaf)) (.node 389 e389 (.node 388 e388 (.node 387 e387 .leaf .leaf) .leaf) (.node 390 e390 .leaf .leaf))) (.node 396 e396 (.node 394 e394 (.node 393 e393 (.node 392 e392 .leaf .leaf) .leaf) (.node 395 e395 .leaf .leaf)) (.node 399 e399 (.node 398 e398 (.node 397 e397 .leaf .leaf) .leaf) (.node 400 e400 .leaf .leaf))))))))))))
theorem tab_ok : tab.ok RT Go.Proofs.Tryz.prog 0 := ⟨by kernel_rfl, ⟨by kernel_rfl, ⟨by kernel_rfl, ⟨by kernel_rfl, ⟨e187_ok, ⟨e93_ok, ⟨e48_ok, ⟨e23_ok, ⟨e13_ok, ⟨e8_ok, ⟨e5_ok, ⟨e4_ok, ⟨e3_ok, trivial, trivial⟩, trivial⟩, ⟨e7_ok, ⟨e6_ok, trivial, trivial⟩, trivial⟩⟩, ⟨e11_ok, ⟨e10_ok, ⟨e9_ok, trivial, trivial⟩, trivial⟩, ⟨e12_ok, trivial, trivial⟩⟩⟩, ⟨e18_ok, ⟨e16_ok, ⟨e15_ok, ⟨e14_ok, trivial, trivial⟩, trivial⟩, ⟨e17_ok, trivial, trivial⟩⟩, ⟨e21_ok, ⟨e20_ok, ⟨e19_ok, trivial, trivial⟩, trivial⟩, ⟨e22_ok, trivial, trivial⟩⟩⟩⟩, ⟨e33_ok, ⟨e28_ok, ⟨e26_ok, ⟨e25_ok, ⟨e24_ok, trivial, trivial⟩, trivial⟩, ⟨e27_ok, trivial, trivial⟩⟩, ⟨e31_ok, ⟨e30_ok, ⟨e29_ok, trivial, trivial⟩, trivial⟩, ⟨e32_ok, trivial, trivial⟩⟩⟩, ⟨e43_ok, ⟨e39_ok, ⟨e38_ok, ⟨e37_ok, trivial, trivial⟩, trivial⟩, ⟨e42_ok, trivial, trivial⟩⟩, ⟨e46_ok, ⟨e45_ok, ⟨e44_ok, trivial, trivial⟩, trivial⟩, ⟨e47_ok, trivial, trivial⟩⟩⟩⟩⟩, ⟨e69_ok, ⟨e59_ok, ⟨e53_ok, ⟨e51_ok, ⟨e50_ok, ⟨e49_ok, trivial, trivial⟩, trivial⟩, ⟨e52_ok, trivial, trivial⟩⟩, ⟨e56_ok, ⟨e55_ok, ⟨e54_ok, trivial, trivial⟩, trivial⟩, ⟨e57_ok, trivial, trivial⟩⟩⟩, ⟨e64_ok, ⟨e62_ok, ⟨e61_ok, ⟨e60_ok, trivial, trivial⟩, trivial⟩, ⟨e63_ok, trivial, trivial⟩⟩, ⟨e67_ok, ⟨e66_ok, ⟨e65_ok, trivial, trivial⟩, trivial⟩, ⟨e68_ok, trivial, trivial⟩⟩⟩⟩, ⟨e83_ok, ⟨e74_ok, ⟨e72_ok, ⟨e71_ok, ⟨e70_ok, trivial, trivial⟩, trivial⟩, ⟨e73_ok, trivial, trivial⟩⟩, ⟨e77_ok, ⟨e76_ok, ⟨e75_ok, trivial, trivial⟩, trivial⟩, ⟨e78_ok, trivial, trivial⟩⟩⟩, ⟨e88_ok, ⟨e86_ok, ⟨e85_ok, ⟨e84_ok, trivial, trivial⟩, trivial⟩, ⟨e87_ok, trivial, trivial⟩⟩, ⟨e91_ok, ⟨e90_ok, ⟨e89_ok, trivial, trivial⟩, trivial⟩, ⟨e92_ok, trivial, trivial⟩⟩⟩⟩⟩⟩, ⟨e144_ok, ⟨e114_ok, ⟨e104_ok, ⟨e99_ok, ⟨e96_ok, ⟨e95_ok, ⟨e94_ok, trivial, trivial⟩, trivial⟩, ⟨e98_ok, ⟨e97_ok, trivial, trivial⟩, trivial⟩⟩, ⟨e102_ok, ⟨e101_ok, ⟨e100_ok, trivial, trivial⟩, trivial⟩, ⟨e103_ok, trivial, trivial⟩⟩⟩, ⟨e109_ok, ⟨e107_ok, ⟨e106_ok, ⟨e105_ok, trivial, trivial⟩, trivial⟩, ⟨e108_ok, trivial, trivial⟩⟩, ⟨e112_ok, ⟨e111_ok, ⟨e110_ok, trivial, trivial⟩, trivial⟩, ⟨e113_ok, trivial, trivial⟩⟩⟩⟩, ⟨e132_ok, ⟨e119_ok, ⟨e117_ok, ⟨e116_ok, ⟨e115_ok, trivial, trivial⟩, trivial⟩, ⟨e118_ok, trivial, trivial⟩⟩, ⟨e123_ok, ⟨e121_ok, ⟨e120_ok, trivial, trivial⟩, trivial⟩, ⟨e131_ok, trivial, trivial⟩⟩⟩, ⟨e139_ok, ⟨e137_ok, ⟨e134_ok, ⟨e133_ok, trivial, trivial⟩, trivial⟩, ⟨e138_ok, trivial, trivial⟩⟩, ⟨e142_ok, ⟨e141_ok, ⟨e140_ok, trivial, trivial⟩, trivial⟩, ⟨e143_ok, trivial, trivial⟩⟩⟩⟩⟩, ⟨e164_ok, ⟨e154_ok, ⟨e149_ok, ⟨e147_ok, ⟨e146_ok, ⟨e145_ok, trivial, trivial⟩, trivial⟩, ⟨e148_ok, trivial, trivial⟩⟩, ⟨e152_ok, ⟨e151_ok, ⟨e150_ok, trivial, trivial⟩, trivial⟩, ⟨e153_ok, trivial, trivial⟩⟩⟩, ⟨e159_ok, ⟨e157_ok, ⟨e156_ok, ⟨e155_ok, trivial, trivial⟩, trivial⟩, ⟨e158_ok, trivial, trivial⟩⟩, ⟨e162_ok, ⟨e161_ok, ⟨e160_ok, trivial, trivial⟩, trivial⟩, ⟨e163_ok, trivial, trivial⟩⟩⟩⟩, ⟨e175_ok, ⟨e170_ok, ⟨e168_ok, ⟨e167_ok, ⟨e166_ok, trivial, trivial⟩, trivial⟩, ⟨e169_ok, trivial, trivial⟩⟩, ⟨e173_ok, ⟨e172_ok, ⟨e171_ok, trivial, trivial⟩, trivial⟩, ⟨e174_ok, trivial, trivial⟩⟩⟩, ⟨e181_ok, ⟨e179_ok, ⟨e178_ok, ⟨e176_ok, trivial, trivial⟩, trivial⟩, ⟨e180_ok, trivial, trivial⟩⟩, ⟨e184_ok, ⟨e183_ok, ⟨e182_ok, trivial, trivial⟩, trivial⟩, ⟨e185_ok, trivial, trivial⟩⟩⟩⟩⟩⟩⟩, ⟨e279_ok, ⟨e235_ok, ⟨e213_ok, ⟨e203_ok, ⟨e197_ok, ⟨e192_ok, ⟨e189_ok, ⟨e188_ok, trivial, trivial⟩, trivial⟩, ⟨e196_ok, ⟨e194_ok, trivial, trivial⟩, trivial⟩⟩, ⟨e200_ok, ⟨e199_ok, ⟨e198_ok, trivial, trivial⟩, trivial⟩, ⟨e201_ok, trivial, trivial⟩⟩⟩, ⟨e208_ok, ⟨e206_ok, ⟨e205_ok, ⟨e204_ok, trivial, trivial⟩, trivial⟩, ⟨e207_ok, trivial, trivial⟩⟩, ⟨e211_ok, ⟨e210_ok, ⟨e209_ok, trivial, trivial⟩, trivial⟩, ⟨e212_ok, trivial, trivial⟩⟩⟩⟩, ⟨e223_ok, ⟨e218_ok, ⟨e216_ok, ⟨e215_ok, ⟨e214_ok, trivial, trivial⟩, trivial⟩, ⟨e217_ok, trivial, trivial⟩⟩, ⟨e221_ok, ⟨e220_ok, ⟨e219_ok, trivial, trivial⟩, trivial⟩, ⟨e222_ok, trivial, trivial⟩⟩⟩, ⟨e229_ok, ⟨e227_ok, ⟨e226_ok, ⟨e225_ok, trivial, trivial⟩, trivial⟩, ⟨e228_ok, trivial, trivial⟩⟩, ⟨e232_ok, ⟨e231_ok, ⟨e230_ok, trivial, trivial⟩, trivial⟩, ⟨e234_ok, trivial, trivial⟩⟩⟩⟩⟩, ⟨e257_ok, ⟨e246_ok, ⟨e241_ok, ⟨e239_ok, ⟨e238_ok, ⟨e236_ok, trivial, trivial⟩, trivial⟩, ⟨e240_ok, trivial, trivial⟩⟩, ⟨e244_ok, ⟨e243_ok, ⟨e242_ok, trivial, trivial⟩, trivial⟩, ⟨e245_ok, trivial, trivial⟩⟩⟩, ⟨e251_ok, ⟨sum249, ⟨e248_ok, ⟨e247_ok, trivial, trivial⟩, trivial⟩, ⟨e250_ok, trivial, trivial⟩⟩, ⟨e254_ok, ⟨e253_ok, ⟨e252_ok, trivial, trivial⟩, trivial⟩, ⟨e255_ok, trivial, trivial⟩⟩⟩⟩, ⟨e267_ok, ⟨e262_ok, ⟨e260_ok, ⟨e259_ok, ⟨e258_ok, trivial, trivial⟩, trivial⟩, ⟨e261_ok, trivial, trivial⟩⟩, ⟨e265_ok, ⟨e264_ok, ⟨e263_ok, trivial, trivial⟩, trivial⟩, ⟨e266_ok, trivial, trivial⟩⟩⟩, ⟨e272_ok, ⟨e270_ok, ⟨e269_ok, ⟨e268_ok, trivial, trivial⟩, trivial⟩, ⟨e271_ok, trivial, trivial⟩⟩, ⟨e275_ok, ⟨e274_ok, ⟨e273_ok, trivial, trivial⟩, trivial⟩, ⟨e278_ok, trivial, trivial⟩⟩⟩⟩⟩⟩, ⟨e338_ok, ⟨e306_ok, ⟨e294_ok, ⟨e284_ok, ⟨e282_ok, ⟨e281_ok, ⟨e280_ok, trivial, trivial⟩, trivial⟩, ⟨e283_ok, trivial, trivial⟩⟩, ⟨e290_ok, ⟨e289_ok, ⟨e286_ok, trivial, trivial⟩, trivial⟩, ⟨cnt292, trivial, trivial⟩⟩⟩, ⟨e299_ok, ⟨e297_ok, ⟨e296_ok, ⟨e295_ok, trivial, trivial⟩, trivial⟩, ⟨e298_ok, trivial, trivial⟩⟩, ⟨e304_ok, ⟨e301_ok, ⟨e300_ok, trivial, trivial⟩, trivial⟩, ⟨e305_ok, trivial, trivial⟩⟩⟩⟩, ⟨e320_ok, ⟨e314_ok, ⟨e310_ok, ⟨e308_ok, ⟨e307_ok, trivial, trivial⟩, trivial⟩, ⟨toldR, trivial, trivial⟩⟩, ⟨e318_ok, ⟨e317_ok, ⟨e316_ok, trivial, trivial⟩, trivial⟩, ⟨e319_ok, trivial, trivial⟩⟩⟩, ⟨e331_ok, ⟨e329_ok, ⟨e323_ok, ⟨e321_ok, trivial, trivial⟩, trivial⟩, ⟨e330_ok, trivial, trivial⟩⟩, ⟨e334_ok, ⟨e333_ok, ⟨e332_ok, trivial, trivial⟩, trivial⟩, ⟨e336_ok, trivial, trivial⟩⟩⟩⟩⟩, ⟨e381_ok, ⟨e370_ok, ⟨e363_ok, ⟨e344_ok, ⟨e343_ok, ⟨e339_ok, trivial, trivial⟩, trivial⟩, ⟨e362_ok, trivial, trivial⟩⟩, ⟨e366_ok, ⟨e365_ok, ⟨e364_ok, trivial, trivial⟩, trivial⟩, ⟨e367_ok, trivial, trivial⟩⟩⟩, ⟨e376_ok, ⟨e373_ok, ⟨e372_ok, ⟨e371_ok, trivial, trivial⟩, trivial⟩, ⟨e375_ok, trivial, trivial⟩⟩, ⟨e379_ok, ⟨e378_ok, ⟨e377_ok, trivial, trivial⟩, trivial⟩, ⟨e380_ok, trivial, trivial⟩⟩⟩⟩, ⟨e391_ok, ⟨e386_ok, ⟨e384_ok, ⟨e383_ok, ⟨e382_ok, trivial, trivial⟩, trivial⟩, ⟨e385_ok, trivial, trivial⟩⟩, ⟨e389_ok, ⟨e388_ok, ⟨e387_ok, trivial, trivial⟩, trivial⟩, ⟨e390_ok, trivial, trivial⟩⟩⟩, ⟨e396_ok, ⟨e394_ok, ⟨e393_ok, ⟨e392_ok, trivial, trivial⟩, trivial⟩, ⟨e395_ok, trivial, trivial⟩⟩, ⟨e399_ok, ⟨e398_ok, ⟨e397_ok, trivial, trivial⟩, trivial⟩, ⟨e400_ok, trivial, trivial⟩⟩⟩⟩⟩⟩⟩⟩⟩⟩⟩⟩
noncomputable def yesH : HF := fun xs n t K => match xs with
 | [] => K (.bool true) n t
 | _ => false
theorem yes_ok {T : Ev.FT} (hT : T.ok RT Tryz.prog 0) (hR : RTok Tryz.prog 0 RT) {f fuel : Nat} (h : Ev.runF T RT fuel f [] 0 .leaf isTrue = true) : HFok RT Tryz.prog 0 f yesH := HFok.of fun xs n t K h1 H r => by
 unfold yesH at h1
 split at h1
 · exact ⟨_, Ev.closed_any hT hR h H, h1⟩
 · cases h1
end Go.AM.TPf
