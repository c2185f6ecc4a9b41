/-
  Contracts: ranges, sums, copies and comparisons of lists of ints.
-/
import Derived.Test.YtjiildnfegechaaTypes
namespace Go.Proofs.Ytjiildnfegechaa
set_option linter.unusedVariables false
set_option linter.unusedSimpArgs false
set_option linter.unnecessarySimpa false
open Go.RowKit

theorem ret_bool {a b : Bool} (h : a = b) : Ending.returned (.bool a) = .returned (.bool b) := by rw [h]
theorem ret_int {a b : Int} (h : a = b) : Ending.returned (.int .i64 a) = .returned (.int .i64 b) := by rw [h]

theorem within_c (n lo hi : Int) (w : World) : Calls Try.prog 56 #[.int .i64 n, .int .i64 lo, .int .i64 hi] w fun e w' => e = .returned (.bool (inB lo hi n)) ∧ w = w' := by
  by_cases h : lo ≤ n
  · go_enter Try.func56, Try.ntmps56
    go_wp2
    go_ret
    exact ⟨ret_bool (by simp [inB, h]), rfl⟩
  · have h' : n < lo := by omega
    have h2 : decide (lo ≤ n) = false := by simp; omega
    go_enter Try.func56, Try.ntmps56
    go_wp2
    go_ret
    exact ⟨ret_bool (by simp [inB, h2]), rfl⟩
theorem l6In_c (n lo hi : Int) (w : World) : Calls Try.prog 57 #[.int .i64 n, .int .i64 lo, .int .i64 hi] w fun e w' => e = .returned (.bool (inB lo hi n)) ∧ w = w' := by
  by_cases h : lo ≤ n
  · go_enter Try.func57, Try.ntmps57
    go_wp2
    go_ret
    exact ⟨ret_bool (by simp [inB, h]), rfl⟩
  · have h' : n < lo := by omega
    have h2 : decide (lo ≤ n) = false := by simp; omega
    go_enter Try.func57, Try.ntmps57
    go_wp2
    go_ret
    exact ⟨ret_bool (by simp [inB, h2]), rfl⟩
theorem every_c {v : Value} {xs : List Int} {w : World} (hx : Ints w v xs) (lo hi : Int) :
    Calls Try.prog 58 #[v, .int .i64 lo, .int .i64 hi] w fun e w' => e = .returned (.bool (allIn lo hi xs)) ∧ w = w' := by
  have hl := hx.1.2.1
  go_enter Try.func58, Try.ntmps58
  go_wp2_with (first | refine r_len rfl rfl st_int rfl (by first | exact Ints.rd (by assumption) | exact Acc.ints (Sep.a0 (by assumption)) | exact Acc.ints (Sep.a1 (by assumption)) | exact Acc.ints (Sep.a2 (by assumption))) ?_)
  go_loop [11] (fun i => ∃ k : Nat, k ≤ xs.length ∧ i = .int .i64 k ∧ allIn lo hi (xs.take k) = true) (fun i => xs.length - (intOf i).toNat)
  case atStart => exact ⟨0, Nat.zero_le _, rfl, by simp [allIn]⟩
  case round =>
    obtain ⟨k, hk, rfl, H⟩ := hrel
    have HH := Lib.hid H; clear H
    by_cases hlt : k < xs.length
    · have H1 := Lib.hid (allIn_take (lo := lo) (hi := hi) hlt)
      have H2 := Lib.hid (fun h => allIn_no (lo := lo) (hi := hi) hlt h)
      go_wp2_with (first | refine r_index rfl rfl st_int rfl rfl (by first | exact Ints.rd (by assumption) | exact Acc.ints (Sep.a0 (by assumption)) | exact Acc.ints (Sep.a1 (by assumption)) | exact Acc.ints (Sep.a2 (by assumption))) (by omega) (by omega) ?_ | (first | refine r_loadInt rfl rfl t_int rfl (by first | exact Ints.rd (by assumption) | exact Ints.rdS (by assumption) (by assumption) | exact Acc.ints (Sep.a0 (by assumption)) | exact Acc.ints (Sep.a1 (by assumption)) | exact Acc.ints (Sep.a2 (by assumption))) (by omega) (by omega) ?_ | refine r_loadIntN rfl rfl t_int rfl (by first | exact Ints.rd (by assumption) | exact Ints.rdS (by assumption) (by assumption) | exact Acc.ints (Sep.a0 (by assumption)) | exact Acc.ints (Sep.a1 (by assumption)) | exact Acc.ints (Sep.a2 (by assumption))) (by omega) ?_) | (go_at_call 56; refine (within_c _ _ _ _).mono ?_; rintro e w' ⟨rfl, rfl⟩))
      · go_ret
        have : inB lo hi (gi xs k) = false := by simpa using ‹(!inB lo hi (gi xs k)) = true›
        exact ⟨ret_bool (H2.out this).symm, rfl⟩
      · have : inB lo hi (gi xs k) = true := by simpa using ‹(!inB lo hi (gi xs k)) = false›
        go_round
        case rel => exact ⟨k + 1, by omega, by go_num, by rw [H1.out, HH.out, this]; rfl⟩
        case measure => simp [intOf]; omega
    · go_wp2
      go_ret
      have e : xs.take k = xs := List.take_of_length_le (by omega)
      exact ⟨ret_bool (by rw [← HH.out, e]), rfl⟩
theorem total_c {v : Value} {xs : List Int} {w : World} (hx : Ints w v xs) {lo hi : Int} (hr : allIn lo hi xs = true) (hlo : -1000000 ≤ lo) (hhi : hi ≤ 1000000) (hn : xs.length ≤ 1000000) :
    Calls Try.prog 39 #[v] w fun e w' => e = .returned (.int .i64 xs.sum) ∧ w = w' := by
  go_enter Try.func39, Try.ntmps39
  go_wp2_with (first | refine r_len rfl rfl st_int rfl (by first | exact Ints.rd (by assumption) | exact Acc.ints (Sep.a0 (by assumption)) | exact Acc.ints (Sep.a1 (by assumption)) | exact Acc.ints (Sep.a2 (by assumption))) ?_)
  go_loop [3, 8] (fun t i => ∃ k : Nat, k ≤ xs.length ∧ i = .int .i64 k ∧ t = .int .i64 (xs.take k).sum) (fun _ i => xs.length - (intOf i).toNat)
  case atStart => exact ⟨0, Nat.zero_le _, rfl, rfl⟩
  case round =>
    obtain ⟨k, hk, rfl, rfl⟩ := hrel
    by_cases hlt : k < xs.length
    · have H1 := Lib.hid (sum_take hlt)
      have b1 := sum_take_bd hr k hk
      have b2 := allIn_gi hr (i := (k : Int)) (by omega) (by omega)
      have b3 : lo * k ≥ -1000000 * k := Int.mul_le_mul_of_nonneg_right hlo (by omega)
      have b4 : hi * k ≤ 1000000 * k := Int.mul_le_mul_of_nonneg_right hhi (by omega)
      have b5 : -1000000000000 ≤ (xs.take k).sum ∧ (xs.take k).sum ≤ 1000000000000 := by omega
      clear b3 b4 b1
      go_wp2_with (first | refine r_index rfl rfl st_int rfl rfl (by first | exact Ints.rd (by assumption) | exact Acc.ints (Sep.a0 (by assumption)) | exact Acc.ints (Sep.a1 (by assumption)) | exact Acc.ints (Sep.a2 (by assumption))) (by omega) (by omega) ?_ | (first | refine r_loadInt rfl rfl t_int rfl (by first | exact Ints.rd (by assumption) | exact Ints.rdS (by assumption) (by assumption) | exact Acc.ints (Sep.a0 (by assumption)) | exact Acc.ints (Sep.a1 (by assumption)) | exact Acc.ints (Sep.a2 (by assumption))) (by omega) (by omega) ?_ | refine r_loadIntN rfl rfl t_int rfl (by first | exact Ints.rd (by assumption) | exact Ints.rdS (by assumption) (by assumption) | exact Acc.ints (Sep.a0 (by assumption)) | exact Acc.ints (Sep.a1 (by assumption)) | exact Acc.ints (Sep.a2 (by assumption))) (by omega) ?_))
      go_round
      case rel => exact ⟨k + 1, by omega, by go_num, by rw [H1.out]⟩
      case measure => simp [intOf]; omega
    · go_wp2
      go_ret
      have e : xs.take k = xs := List.take_of_length_le (by omega)
      exact ⟨ret_int (by rw [e]), rfl⟩
theorem l3Sum_c {v : Value} {xs : List Int} {w : World} (hx : Ints w v xs) {lo hi : Int} (hr : allIn lo hi xs = true) (hlo : -1000000 ≤ lo) (hhi : hi ≤ 1000000) (hn : xs.length ≤ 1000000) :
    Calls Try.prog 33 #[v] w fun e w' => e = .returned (.int .i64 xs.sum) ∧ w = w' := by
  go_enter Try.func33, Try.ntmps33
  go_wp2
  go_loop [3, 4] (fun t i => ∃ k : Nat, k ≤ xs.length ∧ i = .int .i64 k ∧ t = .int .i64 (xs.take k).sum) (fun _ i => xs.length - (intOf i).toNat)
  case atStart => exact ⟨0, Nat.zero_le _, rfl, rfl⟩
  case round =>
    obtain ⟨k, hk, rfl, rfl⟩ := hrel
    by_cases hlt : k < xs.length
    · have H1 := Lib.hid (sum_take hlt)
      have b1 := sum_take_bd hr k hk
      have b2 := allIn_gi hr (i := (k : Int)) (by omega) (by omega)
      have b3 : lo * k ≥ -1000000 * k := Int.mul_le_mul_of_nonneg_right hlo (by omega)
      have b4 : hi * k ≤ 1000000 * k := Int.mul_le_mul_of_nonneg_right hhi (by omega)
      have b5 : -1000000000000 ≤ (xs.take k).sum ∧ (xs.take k).sum ≤ 1000000000000 := by omega
      clear b3 b4 b1
      go_wp2_with (first | refine r_len rfl rfl st_int rfl (by first | exact Ints.rd (by assumption) | exact Acc.ints (Sep.a0 (by assumption)) | exact Acc.ints (Sep.a1 (by assumption)) | exact Acc.ints (Sep.a2 (by assumption))) ?_ | refine r_index rfl rfl st_int rfl rfl (by first | exact Ints.rd (by assumption) | exact Acc.ints (Sep.a0 (by assumption)) | exact Acc.ints (Sep.a1 (by assumption)) | exact Acc.ints (Sep.a2 (by assumption))) (by omega) (by omega) ?_ | (first | refine r_loadInt rfl rfl t_int rfl (by first | exact Ints.rd (by assumption) | exact Ints.rdS (by assumption) (by assumption) | exact Acc.ints (Sep.a0 (by assumption)) | exact Acc.ints (Sep.a1 (by assumption)) | exact Acc.ints (Sep.a2 (by assumption))) (by omega) (by omega) ?_ | refine r_loadIntN rfl rfl t_int rfl (by first | exact Ints.rd (by assumption) | exact Ints.rdS (by assumption) (by assumption) | exact Acc.ints (Sep.a0 (by assumption)) | exact Acc.ints (Sep.a1 (by assumption)) | exact Acc.ints (Sep.a2 (by assumption))) (by omega) ?_))
      go_round
      case rel => exact ⟨k + 1, by omega, by go_num, by rw [H1.out]⟩
      case measure => simp [intOf]; omega
    · go_wp2_with (first | refine r_len rfl rfl st_int rfl (by first | exact Ints.rd (by assumption) | exact Acc.ints (Sep.a0 (by assumption)) | exact Acc.ints (Sep.a1 (by assumption)) | exact Acc.ints (Sep.a2 (by assumption))) ?_)
      go_ret
      have e : xs.take k = xs := List.take_of_length_le (by omega)
      exact ⟨ret_int (by rw [e]), rfl⟩
theorem sCountsValid_c {v : Value} {xs : List Int} {w : World} (hx : Ints w v xs) :
    Calls Try.prog 32 #[v] w fun e w' => e = .returned (.bool (countsOk xs)) ∧ w = w' := by
  have hl := hx.1.2.1
  go_enter Try.func32, Try.ntmps32
  go_wp2
  go_loop [3] (fun i => ∃ k : Nat, k ≤ xs.length ∧ i = .int .i64 k ∧ allIn 0 999 (xs.take k) = true) (fun i => xs.length - (intOf i).toNat)
  case atStart => exact ⟨0, Nat.zero_le _, rfl, by simp [allIn]⟩
  case round =>
    obtain ⟨k, hk, rfl, H⟩ := hrel
    have HH := Lib.hid H; clear H
    by_cases hlt : k < xs.length
    · have H1 := Lib.hid (allIn_take (lo := 0) (hi := 999) hlt)
      have H2 := Lib.hid (fun h => allIn_no (lo := 0) (hi := 999) hlt h)
      go_wp2_with (first | refine r_len rfl rfl st_int rfl (by first | exact Ints.rd (by assumption) | exact Acc.ints (Sep.a0 (by assumption)) | exact Acc.ints (Sep.a1 (by assumption)) | exact Acc.ints (Sep.a2 (by assumption))) ?_ | refine r_index rfl rfl st_int rfl rfl (by first | exact Ints.rd (by assumption) | exact Acc.ints (Sep.a0 (by assumption)) | exact Acc.ints (Sep.a1 (by assumption)) | exact Acc.ints (Sep.a2 (by assumption))) (by omega) (by omega) ?_ | (first | refine r_loadInt rfl rfl t_int rfl (by first | exact Ints.rd (by assumption) | exact Ints.rdS (by assumption) (by assumption) | exact Acc.ints (Sep.a0 (by assumption)) | exact Acc.ints (Sep.a1 (by assumption)) | exact Acc.ints (Sep.a2 (by assumption))) (by omega) (by omega) ?_ | refine r_loadIntN rfl rfl t_int rfl (by first | exact Ints.rd (by assumption) | exact Ints.rdS (by assumption) (by assumption) | exact Acc.ints (Sep.a0 (by assumption)) | exact Acc.ints (Sep.a1 (by assumption)) | exact Acc.ints (Sep.a2 (by assumption))) (by omega) ?_) | (go_at_call 57; refine (l6In_c _ _ _ _).mono ?_; rintro e w' ⟨rfl, rfl⟩))
      · go_ret
        have : inB 0 999 (gi xs k) = false := by simpa using ‹(!inB 0 999 (gi xs k)) = true›
        exact ⟨ret_bool (by simp [countsOk, H2.out this]), rfl⟩
      · have : inB 0 999 (gi xs k) = true := by simpa using ‹(!inB 0 999 (gi xs k)) = false›
        go_round
        case rel => exact ⟨k + 1, by omega, by go_num, by rw [H1.out, HH.out, this]; rfl⟩
        case measure => simp [intOf]; omega
    · go_wp2_with (first | refine r_len rfl rfl st_int rfl (by first | exact Ints.rd (by assumption) | exact Acc.ints (Sep.a0 (by assumption)) | exact Acc.ints (Sep.a1 (by assumption)) | exact Acc.ints (Sep.a2 (by assumption))) ?_)
      go_ret
      have e : xs.take k = xs := List.take_of_length_le (by omega)
      have H := HH.out
      rw [e] at H
      exact ⟨ret_bool (by simp only [countsOk, H, Bool.and_true]; rfl), rfl⟩
theorem sListValid_c {v : Value} {xs : List Int} {w : World} (hx : Ints w v xs) :
    Calls Try.prog 48 #[v] w fun e w' => e = .returned (.bool (listOk xs)) ∧ w = w' := by
  have hl := hx.1.2.1
  go_enter Try.func48, Try.ntmps48
  go_wp2
  go_loop [3] (fun i => ∃ k : Nat, k ≤ xs.length ∧ i = .int .i64 k ∧ allIn 0 7 (xs.take k) = true) (fun i => xs.length - (intOf i).toNat)
  case atStart => exact ⟨0, Nat.zero_le _, rfl, by simp [allIn]⟩
  case round =>
    obtain ⟨k, hk, rfl, H⟩ := hrel
    have HH := Lib.hid H; clear H
    by_cases hlt : k < xs.length
    · have H1 := Lib.hid (allIn_take (lo := 0) (hi := 7) hlt)
      have H2 := Lib.hid (fun h => allIn_no (lo := 0) (hi := 7) hlt h)
      go_wp2_with (first | refine r_len rfl rfl st_int rfl (by first | exact Ints.rd (by assumption) | exact Acc.ints (Sep.a0 (by assumption)) | exact Acc.ints (Sep.a1 (by assumption)) | exact Acc.ints (Sep.a2 (by assumption))) ?_ | refine r_index rfl rfl st_int rfl rfl (by first | exact Ints.rd (by assumption) | exact Acc.ints (Sep.a0 (by assumption)) | exact Acc.ints (Sep.a1 (by assumption)) | exact Acc.ints (Sep.a2 (by assumption))) (by omega) (by omega) ?_ | (first | refine r_loadInt rfl rfl t_int rfl (by first | exact Ints.rd (by assumption) | exact Ints.rdS (by assumption) (by assumption) | exact Acc.ints (Sep.a0 (by assumption)) | exact Acc.ints (Sep.a1 (by assumption)) | exact Acc.ints (Sep.a2 (by assumption))) (by omega) (by omega) ?_ | refine r_loadIntN rfl rfl t_int rfl (by first | exact Ints.rd (by assumption) | exact Ints.rdS (by assumption) (by assumption) | exact Acc.ints (Sep.a0 (by assumption)) | exact Acc.ints (Sep.a1 (by assumption)) | exact Acc.ints (Sep.a2 (by assumption))) (by omega) ?_) | (go_at_call 57; refine (l6In_c _ _ _ _).mono ?_; rintro e w' ⟨rfl, rfl⟩))
      · go_ret
        have : inB 0 7 (gi xs k) = false := by simpa using ‹(!inB 0 7 (gi xs k)) = true›
        exact ⟨ret_bool (by simp [listOk, H2.out this]), rfl⟩
      · have : inB 0 7 (gi xs k) = true := by simpa using ‹(!inB 0 7 (gi xs k)) = false›
        go_round
        case rel => exact ⟨k + 1, by omega, by go_num, by rw [H1.out, HH.out, this]; rfl⟩
        case measure => simp [intOf]; omega
    · go_wp2_with (first | refine r_len rfl rfl st_int rfl (by first | exact Ints.rd (by assumption) | exact Acc.ints (Sep.a0 (by assumption)) | exact Acc.ints (Sep.a1 (by assumption)) | exact Acc.ints (Sep.a2 (by assumption))) ?_)
      go_ret
      have e : xs.take k = xs := List.take_of_length_le (by omega)
      have H := HH.out
      rw [e] at H
      exact ⟨ret_bool (by simp only [listOk, H, Bool.and_true]), rfl⟩
theorem CountsValid_c {v : Value} {xs : List Int} {w : World} (hx : Ints w v xs) :
    Calls Try.prog 38 #[v] w fun e w' => e = .returned (.bool (countsOk xs)) ∧ w = w' := by
  by_cases h : (xs.length : Int) = 8
  · have h1 : ((xs.length : Int) == 8) = true := by simpa using h
    have HH := Lib.hid h; clear h
    go_enter Try.func38, Try.ntmps38
    go_wp2_with (first | refine r_len rfl rfl st_int rfl (by first | exact Ints.rd (by assumption) | exact Acc.ints (Sep.a0 (by assumption)) | exact Acc.ints (Sep.a1 (by assumption)) | exact Acc.ints (Sep.a2 (by assumption))) ?_ | (go_at_call 58; refine (every_c hx _ _).mono ?_; rintro e w' ⟨rfl, rfl⟩))
    go_ret
    exact ⟨ret_bool (by simp [countsOk, HH.out]), rfl⟩
  · have h1 : ((xs.length : Int) == 8) = false := by simpa using h
    have HH := Lib.hid h; clear h
    go_enter Try.func38, Try.ntmps38
    go_wp2_with (first | refine r_len rfl rfl st_int rfl (by first | exact Ints.rd (by assumption) | exact Acc.ints (Sep.a0 (by assumption)) | exact Acc.ints (Sep.a1 (by assumption)) | exact Acc.ints (Sep.a2 (by assumption))) ?_)
    go_ret
    exact ⟨ret_bool (by simp [countsOk, HH.out]), rfl⟩
theorem lengthsIn_c {v : Value} {xs : List Int} {w : World} (hx : Ints w v xs) :
    Calls Try.prog 44 #[v] w fun e w' => e = .returned (.bool (lengthsOk xs)) ∧ w = w' := by
  by_cases h : (xs.length : Int) = 8
  · have h1 : ((xs.length : Int) == 8) = true := by simpa using h
    have HH := Lib.hid h; clear h
    go_enter Try.func44, Try.ntmps44
    go_wp2_with (first | refine r_len rfl rfl st_int rfl (by first | exact Ints.rd (by assumption) | exact Acc.ints (Sep.a0 (by assumption)) | exact Acc.ints (Sep.a1 (by assumption)) | exact Acc.ints (Sep.a2 (by assumption))) ?_ | (go_at_call 58; refine (every_c hx _ _).mono ?_; rintro e w' ⟨rfl, rfl⟩))
    go_ret
    exact ⟨ret_bool (by simp [lengthsOk, HH.out]), rfl⟩
  · have h1 : ((xs.length : Int) == 8) = false := by simpa using h
    have HH := Lib.hid h; clear h
    go_enter Try.func44, Try.ntmps44
    go_wp2_with (first | refine r_len rfl rfl st_int rfl (by first | exact Ints.rd (by assumption) | exact Acc.ints (Sep.a0 (by assumption)) | exact Acc.ints (Sep.a1 (by assumption)) | exact Acc.ints (Sep.a2 (by assumption))) ?_)
    go_ret
    exact ⟨ret_bool (by simp [lengthsOk, HH.out]), rfl⟩
theorem ListValid_c {v : Value} {xs : List Int} {w : World} (hx : Ints w v xs) :
    Calls Try.prog 50 #[v] w fun e w' => e = .returned (.bool (listOk xs)) ∧ w = w' := by
  by_cases h : xs.length ≤ 40
  · have HH := Lib.hid h
    go_enter Try.func50, Try.ntmps50
    go_wp2_with (first | refine r_len rfl rfl st_int rfl (by first | exact Ints.rd (by assumption) | exact Acc.ints (Sep.a0 (by assumption)) | exact Acc.ints (Sep.a1 (by assumption)) | exact Acc.ints (Sep.a2 (by assumption))) ?_ | (go_at_call 58; refine (every_c hx _ _).mono ?_; rintro e w' ⟨rfl, rfl⟩))
    go_ret
    exact ⟨ret_bool (by simp [listOk]; intro _; omega), rfl⟩
  · have h1 : ¬ ((xs.length : Int) ≤ 40) := by omega
    have h2 : decide ((xs.length : Int) ≤ 40) = false := by simpa using h1
    go_enter Try.func50, Try.ntmps50
    go_wp2_with (first | refine r_len rfl rfl st_int rfl (by first | exact Ints.rd (by assumption) | exact Acc.ints (Sep.a0 (by assumption)) | exact Acc.ints (Sep.a1 (by assumption)) | exact Acc.ints (Sep.a2 (by assumption))) ?_)
    go_ret
    exact ⟨ret_bool (by simp [listOk, h2]), rfl⟩
theorem toIntS_c {v : Value} {xs : List Int} {w : World} (hx : Ints w v xs) :
    Calls Try.prog 14 #[v] w fun e w' => ∃ r, e = .returned r ∧ Sep w [ient 3 r xs] w' := by
  have hl := hx.1.2.1
  have S := Sep.refl w
  go_enter Try.func14, Try.ntmps14
  go_wp2_with (first | refine r_len rfl rfl st_int rfl (by first | exact Ints.rd (by assumption) | exact Acc.ints (Sep.a0 (by assumption)) | exact Acc.ints (Sep.a1 (by assumption)) | exact Acc.ints (Sep.a2 (by assumption))) ?_ | (refine r_makeInt rfl rfl st_int rfl rfl (by omega) (by omega) S ?_; intro r w1 S1))
  go_loopw [4] (fun i wr => ∃ k : Nat, k ≤ xs.length ∧ i = .int .i64 k ∧ Sep w [ient 3 r (xs.take k ++ List.replicate (xs.length - k) 0)] wr) (fun i _ => xs.length - (intOf i).toNat)
  case atStart => exact ⟨0, Nat.zero_le _, rfl, by simpa using S1⟩
  case round =>
    clear S S1
    obtain ⟨k, hk, rfl, S⟩ := hrel
    by_cases hlt : k < xs.length
    · have H := Lib.hid (set_copy hlt)
      have hl2 : k < (xs.take k ++ List.replicate (xs.length - k) 0).length := by simp; omega
      go_wp2_with (first | refine r_len rfl rfl st_int rfl (by first | exact Ints.rd (by assumption) | exact Acc.ints (Sep.a0 (by assumption)) | exact Acc.ints (Sep.a1 (by assumption)) | exact Acc.ints (Sep.a2 (by assumption))) ?_ | refine r_index rfl rfl st_int rfl rfl (by first | exact Ints.rd (by assumption) | exact Acc.ints (Sep.a0 (by assumption)) | exact Acc.ints (Sep.a1 (by assumption)) | exact Acc.ints (Sep.a2 (by assumption))) (by omega) (by omega) ?_ | (first | refine r_loadInt rfl rfl t_int rfl (by first | exact Ints.rd (by assumption) | exact Ints.rdS (by assumption) (by assumption) | exact Acc.ints (Sep.a0 (by assumption)) | exact Acc.ints (Sep.a1 (by assumption)) | exact Acc.ints (Sep.a2 (by assumption))) (by omega) (by omega) ?_ | refine r_loadIntN rfl rfl t_int rfl (by first | exact Ints.rd (by assumption) | exact Ints.rdS (by assumption) (by assumption) | exact Acc.ints (Sep.a0 (by assumption)) | exact Acc.ints (Sep.a1 (by assumption)) | exact Acc.ints (Sep.a2 (by assumption))) (by omega) ?_) | (refine r_storeInt rfl rfl sz_int rfl rfl S.a0 (by omega) (by omega) ?_; intro w2 S2))
      go_roundw
      case rel => exact ⟨k + 1, by omega, by go_num, by rw [← H.out]; exact S2⟩
      case measure => simp [intOf]; omega
    · go_wp2_with (first | refine r_len rfl rfl st_int rfl (by first | exact Ints.rd (by assumption) | exact Acc.ints (Sep.a0 (by assumption)) | exact Acc.ints (Sep.a1 (by assumption)) | exact Acc.ints (Sep.a2 (by assumption))) ?_)
      go_ret
      have e : xs.take k ++ List.replicate (xs.length - k) 0 = xs := by rw [List.take_of_length_le (by omega), Nat.sub_eq_zero_of_le (by omega)]; simp
      rw [e] at S
      exact ⟨_, rfl, S⟩
theorem eqIntS_c {v u : Value} {xs ys : List Int} {w : World} (hx : Ints w v xs) (hy : Ints w u ys) :
    Calls Try.prog 16 #[v, u] w fun e w' => e = .returned (.bool (same xs ys)) ∧ Below w.heap.size w w' := by
  have hl := hx.1.2.1
  have hl' := hy.1.2.1
  by_cases hlen : (xs.length : Int) = ys.length
  · have h1 : ((xs.length : Int) != ys.length) = false := by simpa using hlen
    have hle : xs.length ≤ ys.length ∧ ys.length ≤ xs.length := by omega
    have HL := Lib.hid hlen; clear hlen
    have S := Sep.refl w
    go_enter Try.func16, Try.ntmps16
    go_wp2_with (first | refine r_len rfl rfl st_int rfl (by first | exact Ints.rd (by assumption) | exact Acc.ints (Sep.a0 (by assumption)) | exact Acc.ints (Sep.a1 (by assumption)) | exact Acc.ints (Sep.a2 (by assumption))) ?_)
    go_loopw [5] (fun i wr => ∃ k : Nat, k ≤ xs.length ∧ i = .int .i64 k ∧ xs.take k = ys.take k ∧ Sep w [] wr) (fun i _ => xs.length - (intOf i).toNat)
    case atStart => exact ⟨0, Nat.zero_le _, rfl, rfl, S⟩
    case round =>
      clear S
      obtain ⟨k, hk, rfl, H, S⟩ := hrel
      have HH := Lib.hid H; clear H
      by_cases hlt : k < xs.length
      · have hlt' : k < ys.length := by omega
        by_cases he : gi xs k = gi ys k
        · have h2 : (gi xs k != gi ys k) = false := by simpa using he
          have HE := Lib.hid he; clear he
          go_wp2_with (first | refine r_len rfl rfl st_int rfl (by first | exact Ints.rd (by assumption) | exact Acc.ints (Sep.a0 (by assumption)) | exact Acc.ints (Sep.a1 (by assumption)) | exact Acc.ints (Sep.a2 (by assumption))) ?_)
          refine wp_region_below (by kernel_rfl) (by kernel_rfl) ?_
          (repeat (first | go_big_quiet_skip | (refine q_index rfl rfl st_int rfl rfl (by first | exact Ints.rd (by assumption) | exact Acc.ints (Sep.a0 (by assumption)) | exact Acc.ints (Sep.a1 (by assumption)) | exact Acc.ints (Sep.a2 (by assumption))) (by omega) (by omega) ?_; simp only [Act.put, Act.eval, List.setIfInBounds_toArray, List.set_cons_succ, List.set_cons_zero, Array.getD_eq_getD_getElem?, List.getElem?_toArray, List.getElem?_cons_succ, List.getElem?_cons_zero, Option.getD_some]) | (refine q_loadIntC rfl (by first | exact same_below _ | exact drew_below _) rfl t_int rfl (by first | exact Ints.rdQ (by assumption) | exact Ints.rdSQ (by assumption) (by assumption) | exact Acc.intsQ (Sep.a0 (by assumption)) | exact Acc.intsQ (Sep.a1 (by assumption)) | exact Acc.intsQ (Sep.a2 (by assumption))) (by omega) (by omega) ?_; simp only [Act.put, Act.eval, List.setIfInBounds_toArray, List.set_cons_succ, List.set_cons_zero, Array.getD_eq_getD_getElem?, List.getElem?_toArray, List.getElem?_cons_succ, List.getElem?_cons_zero, Option.getD_some]) | (refine q_len rfl rfl st_int rfl (by first | exact Ints.rd (by assumption) | exact Acc.ints (Sep.a0 (by assumption)) | exact Acc.ints (Sep.a1 (by assumption)) | exact Acc.ints (Sep.a2 (by assumption))) ?_; simp only [Act.put, Act.eval, List.setIfInBounds_toArray, List.set_cons_succ, List.set_cons_zero, Array.getD_eq_getD_getElem?, List.getElem?_toArray, List.getElem?_cons_succ, List.getElem?_cons_zero, Option.getD_some]) | (refine q_field rfl rfl (by first | exact fd_tok0 | exact fd_tok1 | exact fd_tok2) rfl (Acc.all (by first | exact Sep.a0 (by assumption) | exact Sep.a1 (by assumption) | exact Sep.a2 (by assumption) | exact Sep.a3 (by assumption)) (by simp)) ?_; simp only [Act.put, Act.eval, List.setIfInBounds_toArray, List.set_cons_succ, List.set_cons_zero, Array.getD_eq_getD_getElem?, List.getElem?_toArray, List.getElem?_cons_succ, List.getElem?_cons_zero, Option.getD_some]) | (refine q_load1C rfl (by first | exact same_below _ | exact drew_below _) rfl t_int rfl (fun _ hb => Acc.adr1 (Acc.ext (by first | exact Sep.a0 (by assumption) | exact Sep.a1 (by assumption) | exact Sep.a2 (by assumption) | exact Sep.a3 (by assumption)) hb) _ (by rfl)) rfl ?_; simp only [Act.put, Act.eval, List.setIfInBounds_toArray, List.set_cons_succ, List.set_cons_zero, Array.getD_eq_getD_getElem?, List.getElem?_toArray, List.getElem?_cons_succ, List.getElem?_cons_zero, Option.getD_some]) | (refine q_loadAggC rfl (by first | exact same_below _ | exact drew_below _) rfl tk_tok rfl (fun _ hb => Acc.all (Acc.ext (by first | exact Sep.a0 (by assumption) | exact Sep.a1 (by assumption) | exact Sep.a2 (by assumption) | exact Sep.a3 (by assumption)) hb) (by simp)) rfl ?_; simp only [Act.put, Act.eval, List.setIfInBounds_toArray, List.set_cons_succ, List.set_cons_zero, Array.getD_eq_getD_getElem?, List.getElem?_toArray, List.getElem?_cons_succ, List.getElem?_cons_zero, Option.getD_some]) | ((first | refine q_move rfl rfl rfl ?_ | refine q_assign rfl rfl rfl ?_ | refine q_pickT rfl rfl rfl rfl ?_ | refine q_pickF rfl rfl rfl rfl ?_ | refine q_lss rfl rfl rfl rfl (by first | assumption | exact decide_eq_true (by omega) | exact decide_eq_false (by omega) | rfl) ?_ | refine q_leq rfl rfl rfl rfl (by first | assumption | exact decide_eq_true (by omega) | exact decide_eq_false (by omega) | rfl) ?_ | refine q_gtr rfl rfl rfl rfl (by first | assumption | exact decide_eq_true (by omega) | exact decide_eq_false (by omega) | rfl) ?_ | refine q_geq rfl rfl rfl rfl (by first | assumption | exact decide_eq_true (by omega) | exact decide_eq_false (by omega) | rfl) ?_ | refine q_eql rfl rfl rfl rfl (by first | assumption | exact beq_iff_eq.2 (by omega) | exact beq_eq_false_iff_ne.2 (by omega) | rfl) ?_ | refine q_neq rfl rfl rfl rfl (by first | assumption | (rw [bne_iff_ne]; omega) | (rw [bne_eq_false_iff_eq]; omega) | rfl) ?_ | refine q_add rfl rfl rfl rfl (by omega) ?_ | refine q_sub rfl rfl rfl rfl (by omega) ?_ | refine q_mul rfl rfl rfl rfl (by omega) ?_ | refine q_min rfl rfl rfl rfl ?_ | refine q_max rfl rfl rfl rfl ?_ | refine q_not rfl rfl rfl rfl ?_); simp only [Act.put, Act.eval, List.setIfInBounds_toArray, List.set_cons_succ, List.set_cons_zero, Array.getD_eq_getD_getElem?, List.getElem?_toArray, List.getElem?_cons_succ, List.getElem?_cons_zero, Option.getD_some]) | (go_big_quiet_want; go_big_quiet_op; go_big_quiet_on)))
          (refine wpQuiet_nil ?_; intro w1 hb)
          go_wp2
          go_roundw
          case rel => exact ⟨k + 1, by omega, by go_num, take_eq_succ hlt hlt' HH.out HE.out, S.ext hb⟩
          case measure => simp [intOf]; omega
        · have h2 : (gi xs k != gi ys k) = true := by simpa using he
          have HE := Lib.hid he; clear he
          go_wp2_with (first | refine r_len rfl rfl st_int rfl (by first | exact Ints.rd (by assumption) | exact Acc.ints (Sep.a0 (by assumption)) | exact Acc.ints (Sep.a1 (by assumption)) | exact Acc.ints (Sep.a2 (by assumption))) ?_)
          refine wp_region_below (by kernel_rfl) (by kernel_rfl) ?_
          (repeat (first | go_big_quiet_skip | (refine q_index rfl rfl st_int rfl rfl (by first | exact Ints.rd (by assumption) | exact Acc.ints (Sep.a0 (by assumption)) | exact Acc.ints (Sep.a1 (by assumption)) | exact Acc.ints (Sep.a2 (by assumption))) (by omega) (by omega) ?_; simp only [Act.put, Act.eval, List.setIfInBounds_toArray, List.set_cons_succ, List.set_cons_zero, Array.getD_eq_getD_getElem?, List.getElem?_toArray, List.getElem?_cons_succ, List.getElem?_cons_zero, Option.getD_some]) | (refine q_loadIntC rfl (by first | exact same_below _ | exact drew_below _) rfl t_int rfl (by first | exact Ints.rdQ (by assumption) | exact Ints.rdSQ (by assumption) (by assumption) | exact Acc.intsQ (Sep.a0 (by assumption)) | exact Acc.intsQ (Sep.a1 (by assumption)) | exact Acc.intsQ (Sep.a2 (by assumption))) (by omega) (by omega) ?_; simp only [Act.put, Act.eval, List.setIfInBounds_toArray, List.set_cons_succ, List.set_cons_zero, Array.getD_eq_getD_getElem?, List.getElem?_toArray, List.getElem?_cons_succ, List.getElem?_cons_zero, Option.getD_some]) | (refine q_len rfl rfl st_int rfl (by first | exact Ints.rd (by assumption) | exact Acc.ints (Sep.a0 (by assumption)) | exact Acc.ints (Sep.a1 (by assumption)) | exact Acc.ints (Sep.a2 (by assumption))) ?_; simp only [Act.put, Act.eval, List.setIfInBounds_toArray, List.set_cons_succ, List.set_cons_zero, Array.getD_eq_getD_getElem?, List.getElem?_toArray, List.getElem?_cons_succ, List.getElem?_cons_zero, Option.getD_some]) | (refine q_field rfl rfl (by first | exact fd_tok0 | exact fd_tok1 | exact fd_tok2) rfl (Acc.all (by first | exact Sep.a0 (by assumption) | exact Sep.a1 (by assumption) | exact Sep.a2 (by assumption) | exact Sep.a3 (by assumption)) (by simp)) ?_; simp only [Act.put, Act.eval, List.setIfInBounds_toArray, List.set_cons_succ, List.set_cons_zero, Array.getD_eq_getD_getElem?, List.getElem?_toArray, List.getElem?_cons_succ, List.getElem?_cons_zero, Option.getD_some]) | (refine q_load1C rfl (by first | exact same_below _ | exact drew_below _) rfl t_int rfl (fun _ hb => Acc.adr1 (Acc.ext (by first | exact Sep.a0 (by assumption) | exact Sep.a1 (by assumption) | exact Sep.a2 (by assumption) | exact Sep.a3 (by assumption)) hb) _ (by rfl)) rfl ?_; simp only [Act.put, Act.eval, List.setIfInBounds_toArray, List.set_cons_succ, List.set_cons_zero, Array.getD_eq_getD_getElem?, List.getElem?_toArray, List.getElem?_cons_succ, List.getElem?_cons_zero, Option.getD_some]) | (refine q_loadAggC rfl (by first | exact same_below _ | exact drew_below _) rfl tk_tok rfl (fun _ hb => Acc.all (Acc.ext (by first | exact Sep.a0 (by assumption) | exact Sep.a1 (by assumption) | exact Sep.a2 (by assumption) | exact Sep.a3 (by assumption)) hb) (by simp)) rfl ?_; simp only [Act.put, Act.eval, List.setIfInBounds_toArray, List.set_cons_succ, List.set_cons_zero, Array.getD_eq_getD_getElem?, List.getElem?_toArray, List.getElem?_cons_succ, List.getElem?_cons_zero, Option.getD_some]) | ((first | refine q_move rfl rfl rfl ?_ | refine q_assign rfl rfl rfl ?_ | refine q_pickT rfl rfl rfl rfl ?_ | refine q_pickF rfl rfl rfl rfl ?_ | refine q_lss rfl rfl rfl rfl (by first | assumption | exact decide_eq_true (by omega) | exact decide_eq_false (by omega) | rfl) ?_ | refine q_leq rfl rfl rfl rfl (by first | assumption | exact decide_eq_true (by omega) | exact decide_eq_false (by omega) | rfl) ?_ | refine q_gtr rfl rfl rfl rfl (by first | assumption | exact decide_eq_true (by omega) | exact decide_eq_false (by omega) | rfl) ?_ | refine q_geq rfl rfl rfl rfl (by first | assumption | exact decide_eq_true (by omega) | exact decide_eq_false (by omega) | rfl) ?_ | refine q_eql rfl rfl rfl rfl (by first | assumption | exact beq_iff_eq.2 (by omega) | exact beq_eq_false_iff_ne.2 (by omega) | rfl) ?_ | refine q_neq rfl rfl rfl rfl (by first | assumption | (rw [bne_iff_ne]; omega) | (rw [bne_eq_false_iff_eq]; omega) | rfl) ?_ | refine q_add rfl rfl rfl rfl (by omega) ?_ | refine q_sub rfl rfl rfl rfl (by omega) ?_ | refine q_mul rfl rfl rfl rfl (by omega) ?_ | refine q_min rfl rfl rfl rfl ?_ | refine q_max rfl rfl rfl rfl ?_ | refine q_not rfl rfl rfl rfl ?_); simp only [Act.put, Act.eval, List.setIfInBounds_toArray, List.set_cons_succ, List.set_cons_zero, Array.getD_eq_getD_getElem?, List.getElem?_toArray, List.getElem?_cons_succ, List.getElem?_cons_zero, Option.getD_some]) | (go_big_quiet_want; go_big_quiet_op; go_big_quiet_on)))
          (refine wpQuiet_nil ?_; intro w1 hb)
          go_wp2
          go_ret
          exact ⟨ret_bool (same_no hlt hlt' HE.out).symm, (S.ext hb).below⟩
      · go_wp2_with (first | refine r_len rfl rfl st_int rfl (by first | exact Ints.rd (by assumption) | exact Acc.ints (Sep.a0 (by assumption)) | exact Acc.ints (Sep.a1 (by assumption)) | exact Acc.ints (Sep.a2 (by assumption))) ?_)
        go_ret
        have e1 : xs.take k = xs := List.take_of_length_le (by omega)
        have e2 : ys.take k = ys := List.take_of_length_le (by omega)
        have := HH.out
        rw [e1, e2] at this
        exact ⟨ret_bool (by simp [same, this]), S.below⟩
  · have h1 : ((xs.length : Int) != ys.length) = true := by simpa using hlen
    have HL := Lib.hid hlen; clear hlen
    go_enter Try.func16, Try.ntmps16
    go_wp2_with (first | refine r_len rfl rfl st_int rfl (by first | exact Ints.rd (by assumption) | exact Acc.ints (Sep.a0 (by assumption)) | exact Acc.ints (Sep.a1 (by assumption)) | exact Acc.ints (Sep.a2 (by assumption))) ?_)
    go_ret
    exact ⟨ret_bool (by
      have := HL.out
      symm; simp only [same, decide_eq_false_iff_not]; rintro rfl; exact this rfl), Below.refl _ _⟩
theorem l1Power_c {n : Int} {w : World} (h0 : 0 ≤ n) (h1 : n ≤ 40) :
    Calls Try.prog 60 #[.int .i64 n] w fun e w' => e = .returned (.int .i64 ((2 : Int) ^ n.toNat)) ∧ w = w' := by
  obtain ⟨m, rfl⟩ := Int.eq_ofNat_of_zero_le h0
  go_enter Try.func60, Try.ntmps60
  go_wp2
  go_loop [3, 4] (fun t i => ∃ k : Nat, k ≤ m ∧ i = .int .i64 k ∧ t = .int .i64 ((2 : Int) ^ k)) (fun _ i => m - (intOf i).toNat)
  case atStart => exact ⟨0, Nat.zero_le _, rfl, rfl⟩
  case round =>
    obtain ⟨k, hk, rfl, rfl⟩ := hrel
    by_cases hlt : k < m
    · have hp : 0 ≤ (2 : Int) ^ k := Int.le_of_lt (Int.pow_pos (by decide))
      have hq : (2 : Int) ^ k ≤ 2 ^ 40 := by exact_mod_cast (Nat.pow_le_pow_right (by decide) (by omega) : (2 : Nat) ^ k ≤ 2 ^ 40)
      have H := Lib.hid (Int.pow_succ (2 : Int) k)
      have hq' : (2 : Int) ^ k ≤ 1099511627776 := hq
      clear hq
      generalize hz : (2 : Int) ^ k = z at *
      clear hz
      go_wp2
      go_round
      case rel => exact ⟨k + 1, by omega, by go_num, by rw [H.out, Int.mul_comm]⟩
      case measure => simp [intOf]; omega
    · go_wp2
      go_ret
      obtain rfl : k = m := by omega
      exact ⟨rfl, rfl⟩
theorem sLengthsKraft_c {v : Value} {xs : List Int} {w : World} (hx : Ints w v xs) :
    Calls Try.prog 59 #[v] w fun e w' => e = .returned (.int .i64 (kraftOf xs)) ∧ w = w' := by
  have hl := hx.1.2.1
  by_cases h8 : (xs.length : Int) = 8
  · have h1 : ((xs.length : Int) != 8) = false := by simpa using h8
    have hle : xs.length ≤ 8 ∧ 8 ≤ xs.length := by omega
    have H8 := Lib.hid h8; clear h8
    go_enter Try.func59, Try.ntmps59
    go_wp2_with (first | refine r_len rfl rfl st_int rfl (by first | exact Ints.rd (by assumption) | exact Acc.ints (Sep.a0 (by assumption)) | exact Acc.ints (Sep.a1 (by assumption)) | exact Acc.ints (Sep.a2 (by assumption))) ?_)
    go_loop [3, 4] (fun t i => ∃ k : Nat, k ≤ xs.length ∧ i = .int .i64 k ∧ t = .int .i64 (kraft (xs.take k)) ∧ allIn 0 8 (xs.take k) = true) (fun _ i => xs.length - (intOf i).toNat)
    case atStart => exact ⟨0, Nat.zero_le _, rfl, rfl, rfl⟩
    case round =>
      obtain ⟨k, hk, rfl, rfl, H⟩ := hrel
      have b1 := kraft_bd H
      have HH := Lib.hid H; clear H
      rw [List.length_take, Nat.min_eq_left hk] at b1
      by_cases hlt : k < xs.length
      · have H1 := Lib.hid (allIn_take (lo := 0) (hi := 8) hlt)
        have H2 := Lib.hid (fun h => allIn_no (lo := 0) (hi := 8) hlt h)
        have H3 := Lib.hid (kraft_take hlt)
        by_cases hin : inB 0 8 (gi xs k) = true
        · have hb := inB_iff.1 hin
          have hp := part_bd _ hb.1 hb.2
          by_cases hz : 0 < gi xs k
          · have HP := Lib.hid (part_pos hz)
            go_wp2_with (first | refine r_len rfl rfl st_int rfl (by first | exact Ints.rd (by assumption) | exact Acc.ints (Sep.a0 (by assumption)) | exact Acc.ints (Sep.a1 (by assumption)) | exact Acc.ints (Sep.a2 (by assumption))) ?_ | refine r_index rfl rfl st_int rfl rfl (by first | exact Ints.rd (by assumption) | exact Acc.ints (Sep.a0 (by assumption)) | exact Acc.ints (Sep.a1 (by assumption)) | exact Acc.ints (Sep.a2 (by assumption))) (by omega) (by omega) ?_ | (first | refine r_loadInt rfl rfl t_int rfl (by first | exact Ints.rd (by assumption) | exact Ints.rdS (by assumption) (by assumption) | exact Acc.ints (Sep.a0 (by assumption)) | exact Acc.ints (Sep.a1 (by assumption)) | exact Acc.ints (Sep.a2 (by assumption))) (by omega) (by omega) ?_ | refine r_loadIntN rfl rfl t_int rfl (by first | exact Ints.rd (by assumption) | exact Ints.rdS (by assumption) (by assumption) | exact Acc.ints (Sep.a0 (by assumption)) | exact Acc.ints (Sep.a1 (by assumption)) | exact Acc.ints (Sep.a2 (by assumption))) (by omega) ?_) | (go_at_call 57; refine (l6In_c _ _ _ _).mono ?_; rintro e w' ⟨rfl, rfl⟩) | (go_at_call 60; refine (l1Power_c (by omega) (by omega)).mono ?_; rintro e w' ⟨rfl, rfl⟩; rw [← HP.out]))
            go_round
            case rel => exact ⟨k + 1, by omega, by go_num, by rw [H3.out], by rw [H1.out, HH.out, hin]; rfl⟩
            case measure => simp [intOf]; omega
          · have HP := Lib.hid (part_zero hz)
            go_wp2_with (first | refine r_len rfl rfl st_int rfl (by first | exact Ints.rd (by assumption) | exact Acc.ints (Sep.a0 (by assumption)) | exact Acc.ints (Sep.a1 (by assumption)) | exact Acc.ints (Sep.a2 (by assumption))) ?_ | refine r_index rfl rfl st_int rfl rfl (by first | exact Ints.rd (by assumption) | exact Acc.ints (Sep.a0 (by assumption)) | exact Acc.ints (Sep.a1 (by assumption)) | exact Acc.ints (Sep.a2 (by assumption))) (by omega) (by omega) ?_ | (first | refine r_loadInt rfl rfl t_int rfl (by first | exact Ints.rd (by assumption) | exact Ints.rdS (by assumption) (by assumption) | exact Acc.ints (Sep.a0 (by assumption)) | exact Acc.ints (Sep.a1 (by assumption)) | exact Acc.ints (Sep.a2 (by assumption))) (by omega) (by omega) ?_ | refine r_loadIntN rfl rfl t_int rfl (by first | exact Ints.rd (by assumption) | exact Ints.rdS (by assumption) (by assumption) | exact Acc.ints (Sep.a0 (by assumption)) | exact Acc.ints (Sep.a1 (by assumption)) | exact Acc.ints (Sep.a2 (by assumption))) (by omega) ?_) | (go_at_call 57; refine (l6In_c _ _ _ _).mono ?_; rintro e w' ⟨rfl, rfl⟩))
            go_round
            case rel => exact ⟨k + 1, by omega, by go_num, by rw [H3.out, HP.out]; simp, by rw [H1.out, HH.out, hin]; rfl⟩
            case measure => simp [intOf]; omega
        · have hin' : inB 0 8 (gi xs k) = false := by simpa using hin
          have HN := Lib.hid (H2.out hin')
          go_wp2_with (first | refine r_len rfl rfl st_int rfl (by first | exact Ints.rd (by assumption) | exact Acc.ints (Sep.a0 (by assumption)) | exact Acc.ints (Sep.a1 (by assumption)) | exact Acc.ints (Sep.a2 (by assumption))) ?_ | refine r_index rfl rfl st_int rfl rfl (by first | exact Ints.rd (by assumption) | exact Acc.ints (Sep.a0 (by assumption)) | exact Acc.ints (Sep.a1 (by assumption)) | exact Acc.ints (Sep.a2 (by assumption))) (by omega) (by omega) ?_ | (first | refine r_loadInt rfl rfl t_int rfl (by first | exact Ints.rd (by assumption) | exact Ints.rdS (by assumption) (by assumption) | exact Acc.ints (Sep.a0 (by assumption)) | exact Acc.ints (Sep.a1 (by assumption)) | exact Acc.ints (Sep.a2 (by assumption))) (by omega) (by omega) ?_ | refine r_loadIntN rfl rfl t_int rfl (by first | exact Ints.rd (by assumption) | exact Ints.rdS (by assumption) (by assumption) | exact Acc.ints (Sep.a0 (by assumption)) | exact Acc.ints (Sep.a1 (by assumption)) | exact Acc.ints (Sep.a2 (by assumption))) (by omega) ?_) | (go_at_call 57; refine (l6In_c _ _ _ _).mono ?_; rintro e w' ⟨rfl, rfl⟩))
          go_ret
          exact ⟨ret_int (by simp [kraftOf, lengthsOk, HN.out]), rfl⟩
      · go_wp2_with (first | refine r_len rfl rfl st_int rfl (by first | exact Ints.rd (by assumption) | exact Acc.ints (Sep.a0 (by assumption)) | exact Acc.ints (Sep.a1 (by assumption)) | exact Acc.ints (Sep.a2 (by assumption))) ?_)
        go_ret
        have e : xs.take k = xs := List.take_of_length_le (by omega)
        have H := HH.out
        rw [e] at H
        have := H8.out
        exact ⟨ret_int (by rw [e]; simp [kraftOf, lengthsOk, H, this]), rfl⟩
  · have h1 : ((xs.length : Int) != 8) = true := by simpa using h8
    have H8 := Lib.hid h8; clear h8
    go_enter Try.func59, Try.ntmps59
    go_wp2_with (first | refine r_len rfl rfl st_int rfl (by first | exact Ints.rd (by assumption) | exact Acc.ints (Sep.a0 (by assumption)) | exact Acc.ints (Sep.a1 (by assumption)) | exact Acc.ints (Sep.a2 (by assumption))) ?_)
    go_ret
    have := H8.out
    exact ⟨ret_int (by simp [kraftOf, lengthsOk, this]), rfl⟩
theorem LengthsKraft_c {v : Value} {xs : List Int} {w : World} (hx : Ints w v xs) :
    Calls Try.prog 22 #[v] w fun e w' => e = .returned (.int .i64 (kraftOf xs)) ∧ w = w' := by
  have hl := hx.1.2.1
  cases hok : lengthsOk xs with
  | true =>
    obtain ⟨h8, hall⟩ := lengthsOk_iff.1 hok
    have hle : xs.length ≤ 8 ∧ 8 ≤ xs.length := by omega
    have HO := Lib.hid (show kraftOf xs = kraft xs by simp [kraftOf, hok])
    clear h8
    go_enter Try.func22, Try.ntmps22
    go_wp2_with (first | refine r_len rfl rfl st_int rfl (by first | exact Ints.rd (by assumption) | exact Acc.ints (Sep.a0 (by assumption)) | exact Acc.ints (Sep.a1 (by assumption)) | exact Acc.ints (Sep.a2 (by assumption))) ?_ | (go_at_call 44; refine (lengthsIn_c hx).mono ?_; rintro e w' ⟨rfl, rfl⟩))
    clear hok
    go_loop [3, 11] (fun t i => ∃ k : Nat, k ≤ xs.length ∧ i = .int .i64 k ∧ t = .int .i64 (kraft (xs.take k))) (fun _ i => xs.length - (intOf i).toNat)
    case atStart => exact ⟨0, Nat.zero_le _, rfl, rfl⟩
    case round =>
      obtain ⟨k, hk, rfl, rfl⟩ := hrel
      have b1 := kraft_take_bd hall k hk
      by_cases hlt : k < xs.length
      · have hb := allIn_gi hall (i := (k : Int)) (by omega) (by omega)
        have H3 := Lib.hid (kraft_take hlt)
        have hp := part_bd _ hb.1 hb.2
        by_cases hz : 0 < gi xs k
        · have HP := Lib.hid (shr_part hz hb.2)
          go_wp2_with (first | refine r_index rfl rfl st_int rfl rfl (by first | exact Ints.rd (by assumption) | exact Acc.ints (Sep.a0 (by assumption)) | exact Acc.ints (Sep.a1 (by assumption)) | exact Acc.ints (Sep.a2 (by assumption))) (by omega) (by omega) ?_ | (first | refine r_loadInt rfl rfl t_int rfl (by first | exact Ints.rd (by assumption) | exact Ints.rdS (by assumption) (by assumption) | exact Acc.ints (Sep.a0 (by assumption)) | exact Acc.ints (Sep.a1 (by assumption)) | exact Acc.ints (Sep.a2 (by assumption))) (by omega) (by omega) ?_ | refine r_loadIntN rfl rfl t_int rfl (by first | exact Ints.rd (by assumption) | exact Ints.rdS (by assumption) (by assumption) | exact Acc.ints (Sep.a0 (by assumption)) | exact Acc.ints (Sep.a1 (by assumption)) | exact Acc.ints (Sep.a2 (by assumption))) (by omega) ?_) | (refine r_shr rfl rfl rfl rfl (by omega) (by omega) (by omega) ?_; rw [HP.out]))
          go_round
          case rel => exact ⟨k + 1, by omega, by go_num, by rw [H3.out]⟩
          case measure => simp [intOf]; omega
        · have HP := Lib.hid (part_zero hz)
          go_wp2_with (first | refine r_index rfl rfl st_int rfl rfl (by first | exact Ints.rd (by assumption) | exact Acc.ints (Sep.a0 (by assumption)) | exact Acc.ints (Sep.a1 (by assumption)) | exact Acc.ints (Sep.a2 (by assumption))) (by omega) (by omega) ?_ | (first | refine r_loadInt rfl rfl t_int rfl (by first | exact Ints.rd (by assumption) | exact Ints.rdS (by assumption) (by assumption) | exact Acc.ints (Sep.a0 (by assumption)) | exact Acc.ints (Sep.a1 (by assumption)) | exact Acc.ints (Sep.a2 (by assumption))) (by omega) (by omega) ?_ | refine r_loadIntN rfl rfl t_int rfl (by first | exact Ints.rd (by assumption) | exact Ints.rdS (by assumption) (by assumption) | exact Acc.ints (Sep.a0 (by assumption)) | exact Acc.ints (Sep.a1 (by assumption)) | exact Acc.ints (Sep.a2 (by assumption))) (by omega) ?_))
          go_round
          case rel => exact ⟨k + 1, by omega, by go_num, by rw [H3.out, HP.out]; simp⟩
          case measure => simp [intOf]; omega
      · go_wp2
        go_ret
        have e : xs.take k = xs := List.take_of_length_le (by omega)
        exact ⟨ret_int (by rw [e, HO.out]), rfl⟩
  | false =>
    have HO := Lib.hid (show kraftOf xs = -1 by simp [kraftOf, hok])
    go_enter Try.func22, Try.ntmps22
    go_wp2_with (first | (go_at_call 44; refine (lengthsIn_c hx).mono ?_; rintro e w' ⟨rfl, rfl⟩))
    go_ret
    exact ⟨ret_int HO.out.symm, rfl⟩
end Go.Proofs.Ytjiildnfegechaa
