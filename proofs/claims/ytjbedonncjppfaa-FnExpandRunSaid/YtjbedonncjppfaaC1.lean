/-
  Contracts: ranges, sums, copies and comparisons of lists of ints.
-/
import Derived.Test.YtjbedonncjppfaaTypes
namespace Go.Proofs.Ytjbedonncjppfaa
set_option linter.unusedVariables false
set_option linter.unusedSimpArgs false
set_option linter.unnecessarySimpa false
open Go.RowKit

theorem ret_bool {a b : Bool} (h : a = b) : Ending.returned (.bool a) = .returned (.bool b) := by rw [h]
theorem ret_int {a b : Int} (h : a = b) : Ending.returned (.int .i64 a) = .returned (.int .i64 b) := by rw [h]

theorem within_c (n lo hi : Int) (w : World) : Calls Try.prog 37 #[.int .i64 n, .int .i64 lo, .int .i64 hi] w fun e w' => e = .returned (.bool (inB lo hi n)) ∧ w = w' := by
  by_cases h : lo ≤ n
  · go_enter Try.func37, Try.ntmps37
    go_wp2
    go_ret
    exact ⟨ret_bool (by simp [inB, h]), rfl⟩
  · have h' : n < lo := by omega
    have h2 : decide (lo ≤ n) = false := by simp; omega
    go_enter Try.func37, Try.ntmps37
    go_wp2
    go_ret
    exact ⟨ret_bool (by simp [inB, h2]), rfl⟩
theorem l6In_c (n lo hi : Int) (w : World) : Calls Try.prog 39 #[.int .i64 n, .int .i64 lo, .int .i64 hi] w fun e w' => e = .returned (.bool (inB lo hi n)) ∧ w = w' := by
  by_cases h : lo ≤ n
  · go_enter Try.func39, Try.ntmps39
    go_wp2
    go_ret
    exact ⟨ret_bool (by simp [inB, h]), rfl⟩
  · have h' : n < lo := by omega
    have h2 : decide (lo ≤ n) = false := by simp; omega
    go_enter Try.func39, Try.ntmps39
    go_wp2
    go_ret
    exact ⟨ret_bool (by simp [inB, h2]), rfl⟩
theorem every_c {v : Value} {xs : List Int} {w : World} (hx : Ints w v xs) (lo hi : Int) :
    Calls Try.prog 44 #[v, .int .i64 lo, .int .i64 hi] w fun e w' => e = .returned (.bool (allIn lo hi xs)) ∧ w = w' := by
  have hl := hx.1.2.1
  go_enter Try.func44, Try.ntmps44
  go_wp2_with (first | refine r_len rfl rfl st_int rfl (by first | exact Ints.rd (by assumption) | exact Acc.ints (Sep.a0 (by assumption)) | exact Acc.ints (Sep.a1 (by assumption)) | exact Acc.ints (Sep.a2 (by assumption))) ?_)
  go_loop [11] (fun i => ∃ k : Nat, k ≤ xs.length ∧ i = .int .i64 k ∧ allIn lo hi (xs.take k) = true) (fun i => xs.length - (intOf i).toNat)
  case atStart => exact ⟨0, Nat.zero_le _, rfl, by simp [allIn]⟩
  case round =>
    obtain ⟨k, hk, rfl, H⟩ := hrel
    have HH := Lib.hid H; clear H
    by_cases hlt : k < xs.length
    · have H1 := Lib.hid (allIn_take (lo := lo) (hi := hi) hlt)
      have H2 := Lib.hid (fun h => allIn_no (lo := lo) (hi := hi) hlt h)
      go_wp2_with (first | refine r_index rfl rfl st_int rfl rfl (by first | exact Ints.rd (by assumption) | exact Acc.ints (Sep.a0 (by assumption)) | exact Acc.ints (Sep.a1 (by assumption)) | exact Acc.ints (Sep.a2 (by assumption))) (by omega) (by omega) ?_ | (first | refine r_loadInt rfl rfl t_int rfl (by first | exact Ints.rd (by assumption) | exact Ints.rdS (by assumption) (by assumption) | exact Acc.ints (Sep.a0 (by assumption)) | exact Acc.ints (Sep.a1 (by assumption)) | exact Acc.ints (Sep.a2 (by assumption))) (by omega) (by omega) ?_ | refine r_loadIntN rfl rfl t_int rfl (by first | exact Ints.rd (by assumption) | exact Ints.rdS (by assumption) (by assumption) | exact Acc.ints (Sep.a0 (by assumption)) | exact Acc.ints (Sep.a1 (by assumption)) | exact Acc.ints (Sep.a2 (by assumption))) (by omega) ?_) | (go_at_call 37; refine (within_c _ _ _ _).mono ?_; rintro e w' ⟨rfl, rfl⟩))
      · go_ret
        have : inB lo hi (gi xs k) = false := by simpa using ‹(!inB lo hi (gi xs k)) = true›
        exact ⟨ret_bool (H2.out this).symm, rfl⟩
      · have : inB lo hi (gi xs k) = true := by simpa using ‹(!inB lo hi (gi xs k)) = false›
        go_round
        case rel => exact ⟨k + 1, by omega, by go_num, by rw [H1.out, HH.out, this]; rfl⟩
        case measure => simp [intOf]; omega
    · go_wp2
      go_ret
      have e : xs.take k = xs := List.take_of_length_le (by omega)
      exact ⟨ret_bool (by rw [← HH.out, e]), rfl⟩
theorem sListValid_c {v : Value} {xs : List Int} {w : World} (hx : Ints w v xs) :
    Calls Try.prog 19 #[v] w fun e w' => e = .returned (.bool (listOk xs)) ∧ w = w' := by
  have hl := hx.1.2.1
  go_enter Try.func19, Try.ntmps19
  go_wp2
  go_loop [3] (fun i => ∃ k : Nat, k ≤ xs.length ∧ i = .int .i64 k ∧ allIn 0 7 (xs.take k) = true) (fun i => xs.length - (intOf i).toNat)
  case atStart => exact ⟨0, Nat.zero_le _, rfl, by simp [allIn]⟩
  case round =>
    obtain ⟨k, hk, rfl, H⟩ := hrel
    have HH := Lib.hid H; clear H
    by_cases hlt : k < xs.length
    · have H1 := Lib.hid (allIn_take (lo := 0) (hi := 7) hlt)
      have H2 := Lib.hid (fun h => allIn_no (lo := 0) (hi := 7) hlt h)
      go_wp2_with (first | refine r_len rfl rfl st_int rfl (by first | exact Ints.rd (by assumption) | exact Acc.ints (Sep.a0 (by assumption)) | exact Acc.ints (Sep.a1 (by assumption)) | exact Acc.ints (Sep.a2 (by assumption))) ?_ | refine r_index rfl rfl st_int rfl rfl (by first | exact Ints.rd (by assumption) | exact Acc.ints (Sep.a0 (by assumption)) | exact Acc.ints (Sep.a1 (by assumption)) | exact Acc.ints (Sep.a2 (by assumption))) (by omega) (by omega) ?_ | (first | refine r_loadInt rfl rfl t_int rfl (by first | exact Ints.rd (by assumption) | exact Ints.rdS (by assumption) (by assumption) | exact Acc.ints (Sep.a0 (by assumption)) | exact Acc.ints (Sep.a1 (by assumption)) | exact Acc.ints (Sep.a2 (by assumption))) (by omega) (by omega) ?_ | refine r_loadIntN rfl rfl t_int rfl (by first | exact Ints.rd (by assumption) | exact Ints.rdS (by assumption) (by assumption) | exact Acc.ints (Sep.a0 (by assumption)) | exact Acc.ints (Sep.a1 (by assumption)) | exact Acc.ints (Sep.a2 (by assumption))) (by omega) ?_) | (go_at_call 39; refine (l6In_c _ _ _ _).mono ?_; rintro e w' ⟨rfl, rfl⟩))
      · go_ret
        have : inB 0 7 (gi xs k) = false := by simpa using ‹(!inB 0 7 (gi xs k)) = true›
        exact ⟨ret_bool (by simp [listOk, H2.out this]), rfl⟩
      · have : inB 0 7 (gi xs k) = true := by simpa using ‹(!inB 0 7 (gi xs k)) = false›
        go_round
        case rel => exact ⟨k + 1, by omega, by go_num, by rw [H1.out, HH.out, this]; rfl⟩
        case measure => simp [intOf]; omega
    · go_wp2_with (first | refine r_len rfl rfl st_int rfl (by first | exact Ints.rd (by assumption) | exact Acc.ints (Sep.a0 (by assumption)) | exact Acc.ints (Sep.a1 (by assumption)) | exact Acc.ints (Sep.a2 (by assumption))) ?_)
      go_ret
      have e : xs.take k = xs := List.take_of_length_le (by omega)
      have H := HH.out
      rw [e] at H
      exact ⟨ret_bool (by simp only [listOk, H, Bool.and_true]), rfl⟩
theorem ListValid_c {v : Value} {xs : List Int} {w : World} (hx : Ints w v xs) :
    Calls Try.prog 24 #[v] w fun e w' => e = .returned (.bool (listOk xs)) ∧ w = w' := by
  by_cases h : xs.length ≤ 40
  · have HH := Lib.hid h
    go_enter Try.func24, Try.ntmps24
    go_wp2_with (first | refine r_len rfl rfl st_int rfl (by first | exact Ints.rd (by assumption) | exact Acc.ints (Sep.a0 (by assumption)) | exact Acc.ints (Sep.a1 (by assumption)) | exact Acc.ints (Sep.a2 (by assumption))) ?_ | (go_at_call 44; refine (every_c hx _ _).mono ?_; rintro e w' ⟨rfl, rfl⟩))
    go_ret
    exact ⟨ret_bool (by simp [listOk]; intro _; omega), rfl⟩
  · have h1 : ¬ ((xs.length : Int) ≤ 40) := by omega
    have h2 : decide ((xs.length : Int) ≤ 40) = false := by simpa using h1
    go_enter Try.func24, Try.ntmps24
    go_wp2_with (first | refine r_len rfl rfl st_int rfl (by first | exact Ints.rd (by assumption) | exact Acc.ints (Sep.a0 (by assumption)) | exact Acc.ints (Sep.a1 (by assumption)) | exact Acc.ints (Sep.a2 (by assumption))) ?_)
    go_ret
    exact ⟨ret_bool (by simp [listOk, h2]), rfl⟩
end Go.Proofs.Ytjbedonncjppfaa
