/- The walks of prime, NewMod, field, Pick, bytes. -/
import Derived.Test.YtkibophcodhcbaaLstB
import Derived.Test.YtkibophcodhcbaaFldW
import Derived.Test.YtkibophcodhcbaaMd
namespace Go.Proofs.Ytkibophcodhcbaa
open Go.RowKit

open Classical in
noncomputable def primeB (p : Nat) : Bool := decide (PrimeN p)
theorem primeB_iff {p : Nat} : primeB p = true ↔ PrimeN p := by unfold primeB; exact @decide_eq_true_iff _ (Classical.propDecidable _)
theorem primeB_no {p : Nat} (h : ¬ PrimeN p) : primeB p = false := by
  cases e : primeB p with
  | false => rfl
  | true => exact absurd (primeB_iff.1 e) h
set_option maxHeartbeats 1000000 in
theorem primeW (p : Nat) (w : World) (hp : p < 4294967296) :
    Calls Try.prog 67 #[.int .u32 p] w fun e w' => e = .returned (.bool (primeB p)) ∧ w = w' := by
  go_enter Try.func67, Try.ntmps67
  by_cases h2 : p < 2
  · go_wp2
    go_ret
    rw [primeB_no fun h => absurd h.1 (by omega)]
    exact ⟨rfl, rfl⟩
  · go_wp2
    go_loopw [2, 3] (fun b d wr => wr = w ∧ b = .bool false ∧ ∃ k : Nat, d = .int .u64 k ∧ 2 ≤ k ∧ (k - 1) * (k - 1) ≤ p ∧ ∀ e, 2 ≤ e → e < k → p % e ≠ 0) (fun _ d _ => 70000 - (intOf d).toNat)
    case atStart => exact ⟨rfl, rfl, 2, rfl, by omega, by omega, fun e h1 h2 => absurd h1 (by omega)⟩
    case round =>
      obtain ⟨rfl, rfl, k, rfl, hk2, hkp, hno⟩ := hrel
      have hk : k ≤ 65536 := by
        apply Nat.le_of_not_lt
        intro h
        have : 65536 * 65536 ≤ (k - 1) * (k - 1) := Nat.mul_le_mul (by omega) (by omega)
        omega
      have hkk : k * k ≤ 65536 * 65536 := Nat.mul_le_mul hk hk
      have e1 : (k : Int) * (k : Int) = ((k * k : Nat) : Int) := by simp
      have b0 : 0 ≤ (k : Int) * (k : Int) := by rw [e1]; omega
      have b1 : (k : Int) * (k : Int) < 18446744073709551616 := by rw [e1]; omega
      have HN := Lib.hid hno
      have HP := Lib.hid hkp
      clear hno hkp
      by_cases hle : k * k ≤ p
      · have c1 : (k : Int) * (k : Int) ≤ (p : Int) := by rw [e1]; omega
        have e2 : (p : Int) % (k : Int) = ((p % k : Nat) : Int) := by simp
        have b2 : 0 ≤ (p : Int) % (k : Int) := by rw [e2]; omega
        have b3 : (p : Int) % (k : Int) < 18446744073709551616 := by
          have := Nat.mod_le p k
          rw [e2]; omega
        have hk0 : ¬ k = 0 := by omega
        by_cases hd : p % k = 0
        · have c2 : (p : Int) % (k : Int) = 0 := by rw [e2]; omega
          have HD := Lib.hid hd
          clear hd e1 e2
          go_wp2
          go_ret
          rw [primeB_no fun h => absurd HD.out (h.2 k hk2 hle)]
          exact ⟨rfl, rfl⟩
        · have c2 : ((p : Int) % (k : Int) == 0) = false := by rw [beq_eq_false_iff_ne, e2]; omega
          have HD := Lib.hid hd
          clear hd e1 e2
          go_wp2
          go_roundw
          case rel =>
            refine ⟨by trivial, rfl, k + 1, by go_num, by omega, by rw [Nat.add_sub_cancel]; exact hle, fun e h1 h2 => ?_⟩
            by_cases e' : e = k
            · subst e'; exact HD.out
            · exact HN.out e h1 (by omega)
          case measure => simp [intOf]; omega
      · have c1 : ¬ (k : Int) * (k : Int) ≤ (p : Int) := by rw [e1]; omega
        clear e1
        go_wp2
        go_ret
        rw [show primeB p = true from primeB_iff.2 ⟨by omega, fun d hd2 hdd => HN.out d hd2 ?_⟩]
        exact ⟨rfl, rfl⟩
        apply Nat.lt_of_not_le
        intro h
        exact hle (Nat.le_trans (Nat.mul_le_mul h h) hdd)
theorem newMod_yes (p : Nat) (w : World) (h1 : p ≤ 2147483648) (h2 : primeB p = true) :
    Calls Try.prog 30 #[.int .u32 p] w fun e w' => Below w.heap.size w w' ∧ ∃ pb, e = .returned (.tuple #[.pointer (some ⟨pb, 0, none⟩), .int .i64 0]) ∧ ModAt w' pb p := by
  have hm := (primeB_iff.1 h2).1
  go_enter Try.func30, Try.ntmps30
  go_wp2_with (refine (primeW p _ (by omega)).mono ?_; rintro e w' ⟨rfl, rfl⟩; rw [h2])
  go_ret2
  exact ⟨by go_grown, w.heap.size, rfl, by simp, by simp, hm, h1⟩
theorem newMod_no (p : Nat) (w : World) (hp : p < 4294967296) (h : ¬ (p ≤ 2147483648 ∧ primeB p = true)) :
    Calls Try.prog 30 #[.int .u32 p] w fun e w' => e = .returned (.tuple #[.pointer none, .int .i64 73]) ∧ w = w' := by
  go_enter Try.func30, Try.ntmps30
  by_cases h1 : p ≤ 2147483648
  · have h2 : primeB p = false := by
      cases e : primeB p with
      | false => rfl
      | true => exact absurd ⟨h1, e⟩ h
    go_wp2_with (refine (primeW p _ hp).mono ?_; rintro e w' ⟨rfl, rfl⟩; rw [h2])
    go_ret2
    exact ⟨rfl, rfl⟩
  · go_wp2
    go_ret2
    exact ⟨rfl, rfl⟩
theorem field_yes (p : Nat) (w : World) (h1 : p ≤ 2147483648) (h2 : primeB p = true) :
    Calls Try.prog 7 #[.int .u32 p] w fun e w' => Below w.heap.size w w' ∧ ∃ pb, e = .returned (.tuple #[.pointer (some ⟨pb, 0, none⟩), .bool true]) ∧ ModAt w' pb p := by
  have hp0 : ¬ p = 0 := by have := (primeB_iff.1 h2).1; omega
  go_enter Try.func7, Try.ntmps7
  go_wp2_with fail
  refine (newMod_yes p _ h1 h2).mono ?_; rintro e w1 ⟨hb, pb, rfl, hm⟩
  have HM := Lib.hid hm
  clear hm
  go_wp2
  go_ret2
  exact ⟨hb, pb, rfl, HM.out⟩
theorem field_no (p : Nat) (w : World) (hp : p < 4294967296) (hp0 : ¬ p = 0) (h : ¬ (p ≤ 2147483648 ∧ primeB p = true)) :
    Calls Try.prog 7 #[.int .u32 p] w fun e w' => e = .returned (.tuple #[.pointer none, .bool false]) ∧ w = w' := by
  have H := Lib.hid h
  clear h
  go_enter Try.func7, Try.ntmps7
  go_wp2_with fail
  refine (newMod_no p _ hp H.out).mono ?_; rintro e w1 ⟨rfl, rfl⟩
  go_wp2
  go_ret2
  exact ⟨rfl, rfl⟩
theorem fieldB (w : World) :
    Calls Try.prog 7 #[.int .u32 0] w fun e w' => e = .returned (.tuple #[.pointer none, .bool true]) ∧ w = w' := by
  go_enter Try.func7, Try.ntmps7
  go_wp2
  go_ret2
  exact ⟨rfl, rfl⟩
/-- Pick: into 0 .. n - 1 -/
theorem pickI (x n : Int) (w : World) (h1 : -9223372036854775808 ≤ x) (h2 : x < 9223372036854775808) (hn : 1 ≤ n) (hn2 : n ≤ 1000000) :
    Calls Try.prog 8 #[.int .i64 x, .int .i64 n] w fun e w' => ∃ k : Nat, e = .returned (.int .i64 k) ∧ (k : Int) < n ∧ w = w' := by
  have r1 := Int.tmod_lt_of_pos x (show 0 < n by omega)
  have r2 : -n < Int.tmod x n := by
    have := Int.lt_tmod_of_pos x (show 0 < n by omega)
    omega
  have hn0 : ¬ n = 0 := by omega
  go_enter Try.func8, Try.ntmps8
  by_cases hs : Int.tmod x n < 0
  · go_wp2
    go_ret
    refine ⟨(Int.tmod x n + n).toNat, ret_int ?_, ?_, rfl⟩
    · omega
    · omega
  · go_wp2
    go_ret
    refine ⟨(Int.tmod x n).toNat, ret_int ?_, ?_, rfl⟩
    · omega
    · omega
end Go.Proofs.Ytkibophcodhcbaa
