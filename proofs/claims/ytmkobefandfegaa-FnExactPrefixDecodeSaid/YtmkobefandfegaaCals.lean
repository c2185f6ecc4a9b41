/-
  The program's functions have bodies.
-/
import Derived.Test.YtmkobefandfegaaTypes
import Derived.Test.YtmkobefandfegaaWalk
namespace Go.Proofs.Ytmkobefandfegaa
set_option linter.unusedVariables false
set_option linter.unusedSimpArgs false
set_option linter.unnecessarySimpa false

theorem int_eq {k : IntKind} {a b : Int} (h : a = b) : Value.int k a = .int k b := by rw [h]
theorem ret_bool' {a b : Bool} (h : a = b) : Ending.returned (.bool a) = .returned (.bool b) := by rw [h]
theorem ret_int' {a b : Int} (h : a = b) : Ending.returned (.int .i64 a) = .returned (.int .i64 b) := by rw [h]
theorem cal3 : CallOk Try.prog 3 := ⟨⟨Try.f3, _, Try.func3, by kernel_rfl, rfl⟩⟩
theorem cal4 : CallOk Try.prog 4 := ⟨⟨Try.f4, _, Try.func4, by kernel_rfl, rfl⟩⟩
theorem cal5 : CallOk Try.prog 5 := ⟨⟨Try.f5, _, Try.func5, by kernel_rfl, rfl⟩⟩
theorem cal6 : CallOk Try.prog 6 := ⟨⟨Try.f6, _, Try.func6, by kernel_rfl, rfl⟩⟩
theorem cal7 : CallOk Try.prog 7 := ⟨⟨Try.f7, _, Try.func7, by kernel_rfl, rfl⟩⟩
theorem cal8 : CallOk Try.prog 8 := ⟨⟨Try.f8, _, Try.func8, by kernel_rfl, rfl⟩⟩
theorem cal9 : CallOk Try.prog 9 := ⟨⟨Try.f9, _, Try.func9, by kernel_rfl, rfl⟩⟩
theorem cal10 : CallOk Try.prog 10 := ⟨⟨Try.f10, _, Try.func10, by kernel_rfl, rfl⟩⟩
theorem cal11 : CallOk Try.prog 11 := ⟨⟨Try.f11, _, Try.func11, by kernel_rfl, rfl⟩⟩
theorem cal12 : CallOk Try.prog 12 := ⟨⟨Try.f12, _, Try.func12, by kernel_rfl, rfl⟩⟩
theorem cal13 : CallOk Try.prog 13 := ⟨⟨Try.f13, _, Try.func13, by kernel_rfl, rfl⟩⟩
theorem cal14 : CallOk Try.prog 14 := ⟨⟨Try.f14, _, Try.func14, by kernel_rfl, rfl⟩⟩
theorem cal15 : CallOk Try.prog 15 := ⟨⟨Try.f15, _, Try.func15, by kernel_rfl, rfl⟩⟩
theorem cal16 : CallOk Try.prog 16 := ⟨⟨Try.f16, _, Try.func16, by kernel_rfl, rfl⟩⟩
theorem cal17 : CallOk Try.prog 17 := ⟨⟨Try.f17, _, Try.func17, by kernel_rfl, rfl⟩⟩
theorem cal18 : CallOk Try.prog 18 := ⟨⟨Try.f18, _, Try.func18, by kernel_rfl, rfl⟩⟩
theorem cal19 : CallOk Try.prog 19 := ⟨⟨Try.f19, _, Try.func19, by kernel_rfl, rfl⟩⟩
theorem cal20 : CallOk Try.prog 20 := ⟨⟨Try.f20, _, Try.func20, by kernel_rfl, rfl⟩⟩
theorem cal21 : CallOk Try.prog 21 := ⟨⟨Try.f21, _, Try.func21, by kernel_rfl, rfl⟩⟩
theorem cal22 : CallOk Try.prog 22 := ⟨⟨Try.f22, _, Try.func22, by kernel_rfl, rfl⟩⟩
theorem cal23 : CallOk Try.prog 23 := ⟨⟨Try.f23, _, Try.func23, by kernel_rfl, rfl⟩⟩
theorem cal24 : CallOk Try.prog 24 := ⟨⟨Try.f24, _, Try.func24, by kernel_rfl, rfl⟩⟩
theorem cal25 : CallOk Try.prog 25 := ⟨⟨Try.f25, _, Try.func25, by kernel_rfl, rfl⟩⟩
theorem cal26 : CallOk Try.prog 26 := ⟨⟨Try.f26, _, Try.func26, by kernel_rfl, rfl⟩⟩
theorem cal27 : CallOk Try.prog 27 := ⟨⟨Try.f27, _, Try.func27, by kernel_rfl, rfl⟩⟩
theorem cal28 : CallOk Try.prog 28 := ⟨⟨Try.f28, _, Try.func28, by kernel_rfl, rfl⟩⟩
theorem cal29 : CallOk Try.prog 29 := ⟨⟨Try.f29, _, Try.func29, by kernel_rfl, rfl⟩⟩
theorem cal30 : CallOk Try.prog 30 := ⟨⟨Try.f30, _, Try.func30, by kernel_rfl, rfl⟩⟩
theorem cal31 : CallOk Try.prog 31 := ⟨⟨Try.f31, _, Try.func31, by kernel_rfl, rfl⟩⟩
theorem cal32 : CallOk Try.prog 32 := ⟨⟨Try.f32, _, Try.func32, by kernel_rfl, rfl⟩⟩
theorem cal33 : CallOk Try.prog 33 := ⟨⟨Try.f33, _, Try.func33, by kernel_rfl, rfl⟩⟩
theorem cal34 : CallOk Try.prog 34 := ⟨⟨Try.f34, _, Try.func34, by kernel_rfl, rfl⟩⟩
theorem cal35 : CallOk Try.prog 35 := ⟨⟨Try.f35, _, Try.func35, by kernel_rfl, rfl⟩⟩
theorem cal36 : CallOk Try.prog 36 := ⟨⟨Try.f36, _, Try.func36, by kernel_rfl, rfl⟩⟩
theorem cal37 : CallOk Try.prog 37 := ⟨⟨Try.f37, _, Try.func37, by kernel_rfl, rfl⟩⟩
theorem cal38 : CallOk Try.prog 38 := ⟨⟨Try.f38, _, Try.func38, by kernel_rfl, rfl⟩⟩
theorem cal39 : CallOk Try.prog 39 := ⟨⟨Try.f39, _, Try.func39, by kernel_rfl, rfl⟩⟩
theorem cal40 : CallOk Try.prog 40 := ⟨⟨Try.f40, _, Try.func40, by kernel_rfl, rfl⟩⟩
theorem cal41 : CallOk Try.prog 41 := ⟨⟨Try.f41, _, Try.func41, by kernel_rfl, rfl⟩⟩
theorem cal42 : CallOk Try.prog 42 := ⟨⟨Try.f42, _, Try.func42, by kernel_rfl, rfl⟩⟩
theorem cal43 : CallOk Try.prog 43 := ⟨⟨Try.f43, _, Try.func43, by kernel_rfl, rfl⟩⟩
theorem cal44 : CallOk Try.prog 44 := ⟨⟨Try.f44, _, Try.func44, by kernel_rfl, rfl⟩⟩
theorem cal45 : CallOk Try.prog 45 := ⟨⟨Try.f45, _, Try.func45, by kernel_rfl, rfl⟩⟩
theorem cal46 : CallOk Try.prog 46 := ⟨⟨Try.f46, _, Try.func46, by kernel_rfl, rfl⟩⟩
theorem cal47 : CallOk Try.prog 47 := ⟨⟨Try.f47, _, Try.func47, by kernel_rfl, rfl⟩⟩
theorem cal48 : CallOk Try.prog 48 := ⟨⟨Try.f48, _, Try.func48, by kernel_rfl, rfl⟩⟩
theorem cal49 : CallOk Try.prog 49 := ⟨⟨Try.f49, _, Try.func49, by kernel_rfl, rfl⟩⟩
theorem cal50 : CallOk Try.prog 50 := ⟨⟨Try.f50, _, Try.func50, by kernel_rfl, rfl⟩⟩
theorem cal51 : CallOk Try.prog 51 := ⟨⟨Try.f51, _, Try.func51, by kernel_rfl, rfl⟩⟩
theorem cal52 : CallOk Try.prog 52 := ⟨⟨Try.f52, _, Try.func52, by kernel_rfl, rfl⟩⟩
theorem cal53 : CallOk Try.prog 53 := ⟨⟨Try.f53, _, Try.func53, by kernel_rfl, rfl⟩⟩
theorem cal54 : CallOk Try.prog 54 := ⟨⟨Try.f54, _, Try.func54, by kernel_rfl, rfl⟩⟩
theorem cal55 : CallOk Try.prog 55 := ⟨⟨Try.f55, _, Try.func55, by kernel_rfl, rfl⟩⟩
theorem cal56 : CallOk Try.prog 56 := ⟨⟨Try.f56, _, Try.func56, by kernel_rfl, rfl⟩⟩
theorem cal57 : CallOk Try.prog 57 := ⟨⟨Try.f57, _, Try.func57, by kernel_rfl, rfl⟩⟩
theorem cal58 : CallOk Try.prog 58 := ⟨⟨Try.f58, _, Try.func58, by kernel_rfl, rfl⟩⟩
theorem cal59 : CallOk Try.prog 59 := ⟨⟨Try.f59, _, Try.func59, by kernel_rfl, rfl⟩⟩
theorem cal60 : CallOk Try.prog 60 := ⟨⟨Try.f60, _, Try.func60, by kernel_rfl, rfl⟩⟩
theorem cal61 : CallOk Try.prog 61 := ⟨⟨Try.f61, _, Try.func61, by kernel_rfl, rfl⟩⟩
theorem cal62 : CallOk Try.prog 62 := ⟨⟨Try.f62, _, Try.func62, by kernel_rfl, rfl⟩⟩
theorem cal63 : CallOk Try.prog 63 := ⟨⟨Try.f63, _, Try.func63, by kernel_rfl, rfl⟩⟩
theorem cal64 : CallOk Try.prog 64 := ⟨⟨Try.f64, _, Try.func64, by kernel_rfl, rfl⟩⟩
theorem cal65 : CallOk Try.prog 65 := ⟨⟨Try.f65, _, Try.func65, by kernel_rfl, rfl⟩⟩
theorem cal66 : CallOk Try.prog 66 := ⟨⟨Try.f66, _, Try.func66, by kernel_rfl, rfl⟩⟩
theorem cal67 : CallOk Try.prog 67 := ⟨⟨Try.f67, _, Try.func67, by kernel_rfl, rfl⟩⟩
theorem cal68 : CallOk Try.prog 68 := ⟨⟨Try.f68, _, Try.func68, by kernel_rfl, rfl⟩⟩
theorem cal69 : CallOk Try.prog 69 := ⟨⟨Try.f69, _, Try.func69, by kernel_rfl, rfl⟩⟩
theorem cal70 : CallOk Try.prog 70 := ⟨⟨Try.f70, _, Try.func70, by kernel_rfl, rfl⟩⟩
theorem cal71 : CallOk Try.prog 71 := ⟨⟨Try.f71, _, Try.func71, by kernel_rfl, rfl⟩⟩
theorem cal72 : CallOk Try.prog 72 := ⟨⟨Try.f72, _, Try.func72, by kernel_rfl, rfl⟩⟩
theorem cal73 : CallOk Try.prog 73 := ⟨⟨Try.f73, _, Try.func73, by kernel_rfl, rfl⟩⟩
theorem cal74 : CallOk Try.prog 74 := ⟨⟨Try.f74, _, Try.func74, by kernel_rfl, rfl⟩⟩
theorem cal75 : CallOk Try.prog 75 := ⟨⟨Try.f75, _, Try.func75, by kernel_rfl, rfl⟩⟩
theorem cal76 : CallOk Try.prog 76 := ⟨⟨Try.f76, _, Try.func76, by kernel_rfl, rfl⟩⟩
theorem cal77 : CallOk Try.prog 77 := ⟨⟨Try.f77, _, Try.func77, by kernel_rfl, rfl⟩⟩
theorem cal78 : CallOk Try.prog 78 := ⟨⟨Try.f78, _, Try.func78, by kernel_rfl, rfl⟩⟩
theorem cal79 : CallOk Try.prog 79 := ⟨⟨Try.f79, _, Try.func79, by kernel_rfl, rfl⟩⟩
theorem cal80 : CallOk Try.prog 80 := ⟨⟨Try.f80, _, Try.func80, by kernel_rfl, rfl⟩⟩
theorem cal81 : CallOk Try.prog 81 := ⟨⟨Try.f81, _, Try.func81, by kernel_rfl, rfl⟩⟩
theorem cal82 : CallOk Try.prog 82 := ⟨⟨Try.f82, _, Try.func82, by kernel_rfl, rfl⟩⟩
theorem cal83 : CallOk Try.prog 83 := ⟨⟨Try.f83, _, Try.func83, by kernel_rfl, rfl⟩⟩
theorem cal84 : CallOk Try.prog 84 := ⟨⟨Try.f84, _, Try.func84, by kernel_rfl, rfl⟩⟩
theorem cal85 : CallOk Try.prog 85 := ⟨⟨Try.f85, _, Try.func85, by kernel_rfl, rfl⟩⟩
theorem cal86 : CallOk Try.prog 86 := ⟨⟨Try.f86, _, Try.func86, by kernel_rfl, rfl⟩⟩
theorem cal87 : CallOk Try.prog 87 := ⟨⟨Try.f87, _, Try.func87, by kernel_rfl, rfl⟩⟩
theorem cal88 : CallOk Try.prog 88 := ⟨⟨Try.f88, _, Try.func88, by kernel_rfl, rfl⟩⟩
theorem cal89 : CallOk Try.prog 89 := ⟨⟨Try.f89, _, Try.func89, by kernel_rfl, rfl⟩⟩
theorem cal90 : CallOk Try.prog 90 := ⟨⟨Try.f90, _, Try.func90, by kernel_rfl, rfl⟩⟩
theorem cal91 : CallOk Try.prog 91 := ⟨⟨Try.f91, _, Try.func91, by kernel_rfl, rfl⟩⟩
theorem cal92 : CallOk Try.prog 92 := ⟨⟨Try.f92, _, Try.func92, by kernel_rfl, rfl⟩⟩
theorem cal93 : CallOk Try.prog 93 := ⟨⟨Try.f93, _, Try.func93, by kernel_rfl, rfl⟩⟩
theorem cal94 : CallOk Try.prog 94 := ⟨⟨Try.f94, _, Try.func94, by kernel_rfl, rfl⟩⟩
theorem cal95 : CallOk Try.prog 95 := ⟨⟨Try.f95, _, Try.func95, by kernel_rfl, rfl⟩⟩
theorem cal96 : CallOk Try.prog 96 := ⟨⟨Try.f96, _, Try.func96, by kernel_rfl, rfl⟩⟩
theorem cal97 : CallOk Try.prog 97 := ⟨⟨Try.f97, _, Try.func97, by kernel_rfl, rfl⟩⟩
theorem cal98 : CallOk Try.prog 98 := ⟨⟨Try.f98, _, Try.func98, by kernel_rfl, rfl⟩⟩
theorem cal99 : CallOk Try.prog 99 := ⟨⟨Try.f99, _, Try.func99, by kernel_rfl, rfl⟩⟩
theorem cal100 : CallOk Try.prog 100 := ⟨⟨Try.f100, _, Try.func100, by kernel_rfl, rfl⟩⟩
theorem cal101 : CallOk Try.prog 101 := ⟨⟨Try.f101, _, Try.func101, by kernel_rfl, rfl⟩⟩
end Go.Proofs.Ytmkobefandfegaa
