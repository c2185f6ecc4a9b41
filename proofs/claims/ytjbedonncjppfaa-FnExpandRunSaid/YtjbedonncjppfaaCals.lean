/-
  The program's functions have bodies.
-/
import Derived.Test.YtjbedonncjppfaaTypes
import Derived.Test.YtjbedonncjppfaaWalk
namespace Go.Proofs.Ytjbedonncjppfaa
set_option linter.unusedVariables false
set_option linter.unusedSimpArgs false
set_option linter.unnecessarySimpa false

theorem int_eq {k : IntKind} {a b : Int} (h : a = b) : Value.int k a = .int k b := by rw [h]
theorem ret_bool' {a b : Bool} (h : a = b) : Ending.returned (.bool a) = .returned (.bool b) := by rw [h]
theorem ret_int' {a b : Int} (h : a = b) : Ending.returned (.int .i64 a) = .returned (.int .i64 b) := by rw [h]
theorem cal3 : CallOk Try.prog 3 := ⟨⟨Try.f3, _, Try.func3, by kernel_rfl, rfl⟩⟩
theorem cal4 : CallOk Try.prog 4 := ⟨⟨Try.f4, _, Try.func4, by kernel_rfl, rfl⟩⟩
theorem cal5 : CallOk Try.prog 5 := ⟨⟨Try.f5, _, Try.func5, by kernel_rfl, rfl⟩⟩
theorem cal6 : CallOk Try.prog 6 := ⟨⟨Try.f6, _, Try.func6, by kernel_rfl, rfl⟩⟩
theorem cal7 : CallOk Try.prog 7 := ⟨⟨Try.f7, _, Try.func7, by kernel_rfl, rfl⟩⟩
theorem cal8 : CallOk Try.prog 8 := ⟨⟨Try.f8, _, Try.func8, by kernel_rfl, rfl⟩⟩
theorem cal9 : CallOk Try.prog 9 := ⟨⟨Try.f9, _, Try.func9, by kernel_rfl, rfl⟩⟩
theorem cal10 : CallOk Try.prog 10 := ⟨⟨Try.f10, _, Try.func10, by kernel_rfl, rfl⟩⟩
theorem cal11 : CallOk Try.prog 11 := ⟨⟨Try.f11, _, Try.func11, by kernel_rfl, rfl⟩⟩
theorem cal12 : CallOk Try.prog 12 := ⟨⟨Try.f12, _, Try.func12, by kernel_rfl, rfl⟩⟩
theorem cal13 : CallOk Try.prog 13 := ⟨⟨Try.f13, _, Try.func13, by kernel_rfl, rfl⟩⟩
theorem cal14 : CallOk Try.prog 14 := ⟨⟨Try.f14, _, Try.func14, by kernel_rfl, rfl⟩⟩
theorem cal15 : CallOk Try.prog 15 := ⟨⟨Try.f15, _, Try.func15, by kernel_rfl, rfl⟩⟩
theorem cal16 : CallOk Try.prog 16 := ⟨⟨Try.f16, _, Try.func16, by kernel_rfl, rfl⟩⟩
theorem cal17 : CallOk Try.prog 17 := ⟨⟨Try.f17, _, Try.func17, by kernel_rfl, rfl⟩⟩
theorem cal18 : CallOk Try.prog 18 := ⟨⟨Try.f18, _, Try.func18, by kernel_rfl, rfl⟩⟩
theorem cal19 : CallOk Try.prog 19 := ⟨⟨Try.f19, _, Try.func19, by kernel_rfl, rfl⟩⟩
theorem cal20 : CallOk Try.prog 20 := ⟨⟨Try.f20, _, Try.func20, by kernel_rfl, rfl⟩⟩
theorem cal21 : CallOk Try.prog 21 := ⟨⟨Try.f21, _, Try.func21, by kernel_rfl, rfl⟩⟩
theorem cal22 : CallOk Try.prog 22 := ⟨⟨Try.f22, _, Try.func22, by kernel_rfl, rfl⟩⟩
theorem cal23 : CallOk Try.prog 23 := ⟨⟨Try.f23, _, Try.func23, by kernel_rfl, rfl⟩⟩
theorem cal24 : CallOk Try.prog 24 := ⟨⟨Try.f24, _, Try.func24, by kernel_rfl, rfl⟩⟩
theorem cal25 : CallOk Try.prog 25 := ⟨⟨Try.f25, _, Try.func25, by kernel_rfl, rfl⟩⟩
theorem cal26 : CallOk Try.prog 26 := ⟨⟨Try.f26, _, Try.func26, by kernel_rfl, rfl⟩⟩
theorem cal27 : CallOk Try.prog 27 := ⟨⟨Try.f27, _, Try.func27, by kernel_rfl, rfl⟩⟩
theorem cal28 : CallOk Try.prog 28 := ⟨⟨Try.f28, _, Try.func28, by kernel_rfl, rfl⟩⟩
theorem cal29 : CallOk Try.prog 29 := ⟨⟨Try.f29, _, Try.func29, by kernel_rfl, rfl⟩⟩
theorem cal30 : CallOk Try.prog 30 := ⟨⟨Try.f30, _, Try.func30, by kernel_rfl, rfl⟩⟩
theorem cal31 : CallOk Try.prog 31 := ⟨⟨Try.f31, _, Try.func31, by kernel_rfl, rfl⟩⟩
theorem cal32 : CallOk Try.prog 32 := ⟨⟨Try.f32, _, Try.func32, by kernel_rfl, rfl⟩⟩
theorem cal33 : CallOk Try.prog 33 := ⟨⟨Try.f33, _, Try.func33, by kernel_rfl, rfl⟩⟩
theorem cal34 : CallOk Try.prog 34 := ⟨⟨Try.f34, _, Try.func34, by kernel_rfl, rfl⟩⟩
theorem cal35 : CallOk Try.prog 35 := ⟨⟨Try.f35, _, Try.func35, by kernel_rfl, rfl⟩⟩
theorem cal36 : CallOk Try.prog 36 := ⟨⟨Try.f36, _, Try.func36, by kernel_rfl, rfl⟩⟩
theorem cal37 : CallOk Try.prog 37 := ⟨⟨Try.f37, _, Try.func37, by kernel_rfl, rfl⟩⟩
theorem cal38 : CallOk Try.prog 38 := ⟨⟨Try.f38, _, Try.func38, by kernel_rfl, rfl⟩⟩
theorem cal39 : CallOk Try.prog 39 := ⟨⟨Try.f39, _, Try.func39, by kernel_rfl, rfl⟩⟩
theorem cal40 : CallOk Try.prog 40 := ⟨⟨Try.f40, _, Try.func40, by kernel_rfl, rfl⟩⟩
theorem cal41 : CallOk Try.prog 41 := ⟨⟨Try.f41, _, Try.func41, by kernel_rfl, rfl⟩⟩
theorem cal42 : CallOk Try.prog 42 := ⟨⟨Try.f42, _, Try.func42, by kernel_rfl, rfl⟩⟩
theorem cal43 : CallOk Try.prog 43 := ⟨⟨Try.f43, _, Try.func43, by kernel_rfl, rfl⟩⟩
theorem cal44 : CallOk Try.prog 44 := ⟨⟨Try.f44, _, Try.func44, by kernel_rfl, rfl⟩⟩
theorem cal45 : CallOk Try.prog 45 := ⟨⟨Try.f45, _, Try.func45, by kernel_rfl, rfl⟩⟩
theorem cal46 : CallOk Try.prog 46 := ⟨⟨Try.f46, _, Try.func46, by kernel_rfl, rfl⟩⟩
theorem cal47 : CallOk Try.prog 47 := ⟨⟨Try.f47, _, Try.func47, by kernel_rfl, rfl⟩⟩
theorem cal48 : CallOk Try.prog 48 := ⟨⟨Try.f48, _, Try.func48, by kernel_rfl, rfl⟩⟩
end Go.Proofs.Ytjbedonncjppfaa
