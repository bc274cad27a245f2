/- The walk of awake. -/
import Derived.Test.YtkibophcodhcbaaLaw4B
import Derived.Test.YtkibophcodhcbaaLaw4W
namespace Go.Proofs.Ytkibophcodhcbaa
open Go.RowKit

def awA (i j : Nat) : Nat := elW 7 (padNW 4 (fun j => (j + 1) % 5) (i * 2 + j))
theorem aw1 : (redN (mdOps 7) 2 (besN awA (idN (mdOps 7)) 2) 2).1 = 2 := by decide +kernel
theorem aw2 : (redN (mdOps 7) 2 (besN awA (idN (mdOps 7)) 2) 2).2 0 2 = 5 := by decide +kernel
theorem aw3 : (redN (mdOps 7) 2 (besN awA (idN (mdOps 7)) 2) 2).2 0 3 = 1 := by decide +kernel
theorem aw4 : (redN (mdOps 7) 2 (besN awA (idN (mdOps 7)) 2) 2).2 1 2 = 5 := by decide +kernel
theorem aw5 : (redN (mdOps 7) 2 (besN awA (idN (mdOps 7)) 2) 2).2 1 3 = 3 := by decide +kernel
theorem prime7 : primeB 7 = true := primeB_iff.2 ⟨by omega, fun d h1 h2 => by
  have : d ≤ 2 := by
    apply Nat.le_of_not_lt
    intro h
    have : 3 * 3 ≤ d * d := Nat.mul_le_mul h h
    omega
  obtain rfl : d = 2 := by omega
  decide⟩
theorem el_lt (pb p v : Nat) (h : FLW pb p) (hv : v < 4294967296) : elW p v < 4294967296 := h.ad v _ hv h.zr
set_option maxRecDepth 100000 in
set_option maxHeartbeats 2000000 in
theorem awake (w : World) :
    Calls Try.prog 6 #[] w fun e w' => e = .returned (.bool true) ∧ Below w.heap.size w w' := by
  go_enter Try.func6, Try.ntmps6
  go_wp2_with fail
  refine (field_yes 7 _ (by omega) prime7).mono ?_; rintro e w1 ⟨hb1, pb, rfl, hm⟩
  go_wp2_with fail
  have b2 := (Below.refl w1.heap.size w1).alloc (Nat.le_refl _) (.cells #[.int .u32 1, .int .u32 2, .int .u32 3, .int .u32 4] 22)
  have c2 : ∀ j, j < 4 → (w1.alloc (.cells #[.int .u32 1, .int .u32 2, .int .u32 3, .int .u32 4] 22)).cell? ((⟨w1.heap.size, 0, none⟩ : Addr).add j) = some (.int .u32 (((fun j => (j + 1) % 5) j : Nat) : Int)) := fun j hj => by
    match j, hj with
    | 0, _ => simp [go_sem]
    | 1, _ => simp [go_sem]
    | 2, _ => simp [go_sem]
    | 3, _ => simp [go_sem]
  have hm2 := hm.below b2
  have hL := (show FHW pb 7 _ from hm2).lt
  refine (squareSW pb 7 2 ⟨w1.heap.size, 0, none⟩ 4 4 (fun j => (j + 1) % 5) _ hm2 (by omega) (by omega) (by omega) (by omega) (fun _ => by simp) (fun j => Nat.lt_of_lt_of_le (Nat.mod_lt _ (by omega)) (by omega)) c2).mono ?_
  rintro e w2 ⟨x, rfl, hx, hb2⟩
  have hAlt : ∀ i j, awA i j < 4294967296 := fun i j => el_lt pb 7 _ hL (by unfold padNW; split; exact Nat.lt_of_lt_of_le (Nat.mod_lt _ (by omega)) (by omega); omega)
  have HX := Lib.hid (show MatAt w2 23 22 .u32 (.iface 25 (.pointer (some ⟨pb, 0, none⟩))) x 2 2 awA from hx)
  have HM := Lib.hid (hm2.below hb2)
  have HBW := Lib.hid (bstep hb1 (bstep b2 hb2))
  clear hx hm hm2 b2 c2
  go_wp2_with fail
  have b3 := (Below.refl w2.heap.size w2).alloc (Nat.le_refl _) (.cells #[.pointer none, .pointer (some ⟨x, 0, none⟩)] 32)
  have X3 := Lib.hid (HX.out.below b3)
  have M3 := Lib.hid (HM.out.below b3)
  have W3B := Lib.hid (bstep HBW.out b3)
  clear b3
  generalize w2.alloc (.cells #[.pointer none, .pointer (some ⟨x, 0, none⟩)] 32) = W3 at *
  refine (minverseW pb 7 x 2 awA W3 M3.out X3.out hAlt (by omega) (by omega)).mono ?_
  rintro e w4 ⟨hb4, hif⟩
  rw [if_neg (by rw [aw1]; omega)] at hif
  obtain ⟨y, rfl, hy⟩ := hif
  have Y4 := Lib.hid hy
  have B4 := Lib.hid (bstep W3B.out hb4)
  clear hy hb4
  go_wp2_with fail
  have b5 := (Below.refl w4.heap.size w4).alloc (Nat.le_refl _) (.cells #[.pointer none, .pointer (some ⟨y, 0, none⟩)] 32)
  have Y5 := Lib.hid (Y4.out.below b5)
  have B5 := Lib.hid (bstep B4.out b5)
  have c0 : (w4.alloc (.cells #[.pointer none, .pointer (some ⟨y, 0, none⟩)] 32)).cell? ⟨w4.heap.size, 0, none⟩ = some (.pointer none) := by simp
  have c1 : (w4.alloc (.cells #[.pointer none, .pointer (some ⟨y, 0, none⟩)] 32)).cell? ⟨w4.heap.size, 1, none⟩ = some (.pointer (some ⟨y, 0, none⟩)) := by simp
  have lq : w4.heap.size < (w4.alloc (.cells #[.pointer none, .pointer (some ⟨y, 0, none⟩)] 32)).heap.size := by simp
  clear b5
  generalize w4.alloc (.cells #[.pointer none, .pointer (some ⟨y, 0, none⟩)] 32) = W5 at *
  generalize w4.heap.size = qb at *
  refine (thereW y _).mono ?_
  rintro e w6 ⟨rfl, hb6⟩
  have d0 := kcell hb6 lq c0
  have d1 := kcell hb6 lq c1
  have lq6 := bsz hb6 lq
  have Y6 := Lib.hid (Y5.out.below hb6)
  have B6 := Lib.hid (bstep B5.out hb6)
  have RL := Lib.hid (fun i j => rgN_lt (n := 2) (mdLaw (primeB_iff.1 prime7) (by omega)) (A := awA) (fun i j => Nat.mod_lt _ (by omega)) i j)
  have RL2 := Lib.hid (fun i j => show rgN (mdOps 7) 2 awA i j < 4294967296 from Nat.lt_trans (RL.out i j) (by omega))
  clear c0 c1 hb6
  go_wp2_with fail
  refine (mat_atW 25 (.pointer (some ⟨pb, 0, none⟩)) y 2 2 (rgN (mdOps 7) 2 awA) w6 0 0 Y6.out RL2.out (by omega) (by omega) (by omega) (by omega)).mono ?_
  rintro e w7 ⟨rfl, hb7⟩
  rw [show rgN (mdOps 7) 2 awA 0 0 = _ from aw2]
  have d07 := kcell hb7 lq6 d0
  have d17 := kcell hb7 lq6 d1
  have lq7 := bsz hb7 lq6
  have Y7 := Lib.hid (Y6.out.below hb7)
  have B7 := Lib.hid (bstep B6.out hb7)
  clear hb7 d0 d1
  go_wp2_with fail
  refine (mat_atW 25 (.pointer (some ⟨pb, 0, none⟩)) y 2 2 (rgN (mdOps 7) 2 awA) w7 0 1 Y7.out RL2.out (by omega) (by omega) (by omega) (by omega)).mono ?_
  rintro e w8 ⟨rfl, hb8⟩
  rw [show rgN (mdOps 7) 2 awA 0 1 = _ from aw3]
  have d08 := kcell hb8 lq7 d07
  have d18 := kcell hb8 lq7 d17
  have lq8 := bsz hb8 lq7
  have Y8 := Lib.hid (Y7.out.below hb8)
  have B8 := Lib.hid (bstep B7.out hb8)
  clear hb8 d07 d17
  go_wp2_with fail
  refine (mat_atW 25 (.pointer (some ⟨pb, 0, none⟩)) y 2 2 (rgN (mdOps 7) 2 awA) w8 1 0 Y8.out RL2.out (by omega) (by omega) (by omega) (by omega)).mono ?_
  rintro e w9 ⟨rfl, hb9⟩
  rw [show rgN (mdOps 7) 2 awA 1 0 = _ from aw4]
  have d09 := kcell hb9 lq8 d08
  have d19 := kcell hb9 lq8 d18
  have lq9 := bsz hb9 lq8
  have Y9 := Lib.hid (Y8.out.below hb9)
  have B9 := Lib.hid (bstep B8.out hb9)
  clear hb9 d08 d18
  go_wp2_with fail
  refine (mat_atW 25 (.pointer (some ⟨pb, 0, none⟩)) y 2 2 (rgN (mdOps 7) 2 awA) w9 1 1 Y9.out RL2.out (by omega) (by omega) (by omega) (by omega)).mono ?_
  rintro e w10 ⟨rfl, hb10⟩
  rw [show rgN (mdOps 7) 2 awA 1 1 = _ from aw5]
  have d010 := kcell hb10 lq9 d09
  have d110 := kcell hb10 lq9 d19
  have lq10 := bsz hb10 lq9
  have Y10 := Lib.hid (Y9.out.below hb10)
  have B10 := Lib.hid (bstep B9.out hb10)
  clear hb10 d09 d19
  go_wp2
  go_ret
  exact ⟨rfl, B10.out⟩
end Go.Proofs.Ytkibophcodhcbaa
