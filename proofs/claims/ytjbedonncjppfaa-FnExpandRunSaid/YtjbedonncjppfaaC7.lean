/-
  Contracts and a law: the least cost of tokens of a list is the reference's.
-/
import Derived.Test.YtjbedonncjppfaaC6
namespace Go.Proofs.Ytjbedonncjppfaa
set_option linter.unusedVariables false
set_option linter.unusedSimpArgs false
set_option linter.unnecessarySimpa false
open Go.RowKit

theorem ParseLeast_c {v : Value} {xs : List Int} {w : World} (hx : Ints w v xs) :
    Calls Try.prog 33 #[v] w fun e w' => e = .returned (.int .i64 (parseLeast xs)) ∧ Below w.heap.size w w' := by
  have S := Sep.refl w
  cases hok : listOk xs with
  | true =>
    obtain ⟨hl, hall⟩ := listOk_iff.1 hok
    have HO := Lib.hid (show parseLeast xs = gi (ctab xs xs.length) 0 by simp [parseLeast, hok])
    have hcl : 0 < (ctab xs xs.length).length := by rw [ctab_length]; omega
    go_enter Try.func33, Try.ntmps33
    go_wp2_with (first | (go_at_call 24; refine (ListValid_c hx).mono ?_; rintro _ w4 ⟨rfl, rfl⟩) | (go_at_call 47; refine (costsFrom_c hx (by omega)).mono ?_; rintro _ w2 ⟨r, rfl, S2⟩) | (refine r_index rfl rfl st_int rfl rfl (Acc.ints S2.a0) (by omega) (by omega) ?_) | (refine r_loadInt rfl rfl t_int rfl (Acc.ints S2.a0) (by omega) (by omega) ?_))
    go_ret
    exact ⟨ret_int HO.out.symm, Sep.below S2⟩
  | false =>
    have HO := Lib.hid (show parseLeast xs = -1 by simp [parseLeast, hok])
    go_enter Try.func33, Try.ntmps33
    go_wp2_with (first | (go_at_call 24; refine (ListValid_c hx).mono ?_; rintro _ w4 ⟨rfl, rfl⟩))
    go_ret
    exact ⟨ret_int HO.out.symm, Sep.below S⟩
end Go.Proofs.Ytjbedonncjppfaa
