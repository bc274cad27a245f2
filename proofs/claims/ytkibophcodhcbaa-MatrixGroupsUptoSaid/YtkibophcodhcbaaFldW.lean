/- The walks of matrix.Mod's methods. -/
import Derived.Test.YtkibophcodhcbaaBase
namespace Go.Proofs.Ytkibophcodhcbaa
open Go.RowKit

def ModAt (w : World) (pb p : Nat) : Prop := pb < w.heap.size ∧ w.cell? ⟨pb, 0, none⟩ = some (.int .u64 (p : Int)) ∧ 2 ≤ p ∧ p ≤ 2147483648
theorem ModAt.below {w w' : World} {pb p : Nat} (h : ModAt w pb p) (hb : Below w.heap.size w w') : ModAt w' pb p :=
  ⟨Nat.lt_of_lt_of_le h.1 hb.size, (hb.cell (p := ⟨pb, 0, none⟩) h.1).trans h.2.1, h.2.2⟩

theorem mtold (pb p x : Nat) (w : World) (h : ModAt w pb p) (hx : x < 18446744073709551616) :
    Calls Try.prog 149 #[.pointer (some ⟨pb, 0, none⟩), .int .u64 x] w fun e w' => e = .returned (.int .u32 (mdT p x : Nat)) ∧ w = w' := by
  obtain ⟨h1, h2, h3, h4⟩ := h
  have hz : ((p : Int) == 0) = false := by rw [beq_eq_false_iff_ne]; omega
  have hz2 : ((p : Int) != 0) = true := by rw [bne_iff_ne]; omega
  have hpp : (0 : Int) < p := by omega
  have hm : x % p < 4294967296 := Nat.lt_of_lt_of_le (Nat.mod_lt _ (by omega)) (by omega)
  have hmi : (x : Int) % p < 4294967296 := by have : ((x % p : Nat) : Int) = (x : Int) % p := by simp
                                              omega
  have hm0 : 0 ≤ (x : Int) % p := by have : ((x % p : Nat) : Int) = (x : Int) % p := by simp
                                     omega
  go_enter Try.func149, Try.ntmps149
  go_wp2
  go_ret
  refine ⟨ret_int ?_, rfl⟩
  show _ = (((x % p : Nat)) : Int)
  simp

theorem fzeroW (pb p : Nat) (w : World) (_h : ModAt w pb p) : Calls Try.prog 148 #[.pointer (some ⟨pb, 0, none⟩)] w fun e w' => e = .returned (.int .u32 ((mdOps p).zero : Nat)) ∧ Below w.heap.size w w' := by
  go_enter Try.func148, Try.ntmps148
  go_wp2
  go_ret
  exact ⟨rfl, Below.refl _ _⟩
theorem foneW (pb p : Nat) (w : World) (h : ModAt w pb p) : Calls Try.prog 146 #[.pointer (some ⟨pb, 0, none⟩)] w fun e w' => e = .returned (.int .u32 ((mdOps p).one : Nat)) ∧ Below w.heap.size w w' := by
  go_enter Try.func146, Try.ntmps146
  go_wp2_with (refine (mtold pb p 1 _ h (by omega)).mono ?_; rintro e w' ⟨rfl, rfl⟩)
  go_ret
  exact ⟨rfl, Below.refl _ _⟩
theorem faddW (pb p a b : Nat) (w : World) (h : ModAt w pb p) (ha : a < 4294967296) (hb : b < 4294967296) : Calls Try.prog 143 #[.pointer (some ⟨pb, 0, none⟩), .int .u32 a, .int .u32 b] w fun e w' => e = .returned (.int .u32 ((mdOps p).add a b : Nat)) ∧ Below w.heap.size w w' := by
  go_enter Try.func143, Try.ntmps143
  go_wp2_with fail
  rw [show ((a : Int) + (b : Int)) = ((a + b : Nat) : Int) by omega]
  refine (mtold pb p (a + b) _ h (by omega)).mono ?_; rintro e w' ⟨rfl, rfl⟩
  go_wp2
  go_ret
  exact ⟨rfl, Below.refl _ _⟩
theorem mmul (pb p a b : Nat) (w : World) (h : ModAt w pb p) (ha : a < 4294967296) (hb : b < 4294967296) : Calls Try.prog 145 #[.pointer (some ⟨pb, 0, none⟩), .int .u32 a, .int .u32 b] w fun e w' => e = .returned (.int .u32 (mdM p a b : Nat)) ∧ w = w' := by
  have hp : 0 < p := by have := h.2.2.1; omega
  have hp2 : p ≤ 4294967296 := by have := h.2.2.2; omega
  have t1 := mdT_lt p a hp
  have t2 := mdT_lt p b hp
  have H := Lib.hid (show mdM p a b = mdT p (mdT p a * mdT p b) from rfl)
  have hm : mdT p a * mdT p b < 18446744073709551616 := by
    have : mdT p a * mdT p b ≤ 4294967295 * 4294967295 := Nat.mul_le_mul (by omega) (by omega)
    omega
  have e := Int.natCast_mul (mdT p a) (mdT p b)
  have hmi : ((mdT p a : Nat) : Int) * ((mdT p b : Nat) : Int) < 18446744073709551616 := by rw [← e]; omega
  have hm0 : 0 ≤ ((mdT p a : Nat) : Int) * ((mdT p b : Nat) : Int) := by rw [← e]; omega
  clear e
  go_enter Try.func145, Try.ntmps145
  go_wp2_with fail
  refine (mtold pb p a _ h (by omega)).mono ?_; rintro e w' ⟨rfl, rfl⟩
  go_wp2_with fail
  refine (mtold pb p b _ h (by omega)).mono ?_; rintro e w' ⟨rfl, rfl⟩
  go_wp2_with fail
  rw [← Int.natCast_mul]
  refine (mtold pb p _ _ h hm).mono ?_; rintro e w' ⟨rfl, rfl⟩
  go_wp2
  go_ret
  exact ⟨ret_int (by rw [H.out]), rfl⟩
theorem fmulW (pb p a b : Nat) (w : World) (h : ModAt w pb p) (ha : a < 4294967296) (hb : b < 4294967296) : Calls Try.prog 145 #[.pointer (some ⟨pb, 0, none⟩), .int .u32 a, .int .u32 b] w fun e w' => e = .returned (.int .u32 ((mdOps p).mul a b : Nat)) ∧ Below w.heap.size w w' :=
  (mmul pb p a b w h ha hb).mono fun e w' h => ⟨h.1, by rw [← h.2]; exact Below.refl _ _⟩
theorem sub_arg (a b p : Nat) (ha : a < 4294967296) (hb : b < 4294967296) (h0 : 0 < p) (h1 : p ≤ 2147483648) :
    IntKind.u64.wrap (IntKind.u64.wrap (IntKind.u64.wrap (a : Int) + (p : Int)) - (IntKind.u64.wrap (b : Int)).tmod (p : Int)) = ((a + p - b % p : Nat) : Int) := by
  have hm : b % p < p := Nat.mod_lt _ h0
  have e : (b : Int).tmod (p : Int) = ((b % p : Nat) : Int) := by rw [Int.tmod_eq_emod_of_nonneg (by omega)]; simp
  rw [IntWalk.u64_in (a : Int) (by omega), IntWalk.u64_in (b : Int) (by omega), IntWalk.u64_in ((a : Int) + p) (by omega), e, IntWalk.u64_in _ (by omega)]; omega
set_option maxRecDepth 100000 in
theorem fsubW (pb p a b : Nat) (w : World) (h : ModAt w pb p) (ha : a < 4294967296) (hb : b < 4294967296) : Calls Try.prog 147 #[.pointer (some ⟨pb, 0, none⟩), .int .u32 a, .int .u32 b] w fun e w' => e = .returned (.int .u32 ((mdOps p).sub a b : Nat)) ∧ Below w.heap.size w w' := by
  have HM := Lib.hid h
  obtain ⟨h1, h2, h3, h4⟩ := h
  have hz : ((p : Int) == 0) = false := by rw [beq_eq_false_iff_ne]; omega
  have hz2 : ((p : Int) != 0) = true := by rw [bne_iff_ne]; omega
  have hm : b % p < p := Nat.mod_lt _ (by omega)
  have hmi : (b : Int) % p < p := by have : ((b % p : Nat) : Int) = (b : Int) % p := by simp
                                     omega
  have hm0 : 0 ≤ (b : Int) % p := by have : ((b % p : Nat) : Int) = (b : Int) % p := by simp
                                     omega
  have hpp : (0 : Int) < p := by omega
  have hz3 : ¬ p = 0 := by omega
  have hp1 : 0 < p := by omega
  go_enter Try.func147, Try.ntmps147
  go_wp2
  go_region_held3 (fun w' => Below w.heap.size w w' ∧ w'.cell? ⟨pb, 0, none⟩ = some (.int .u64 (p : Int))) (first | exact ⟨(Below.refl _ _).drew, by simp [*]⟩ | exact bkeep (by assumption) h1 (by assumption) | (trace_state; fail))
    (first | (go_at_call 149; rw [sub_arg a b p ha hb hp1 h4]; refine (mtold pb p (a + p - b % p) _ (HM.out.below (Below.refl _ _).drew) (by omega)).mono ?_; rintro e w' ⟨rfl, rfl⟩))
  go_wp2
  go_ret
  exact ⟨rfl, (Below.refl _ _).drew⟩

theorem and1_eq (z : Nat) (hz : z < 2 ^ 64) (h : z % 2 = 1) : (bits .and .u64 (z : Int) 1 == 1) = true := by
  have e := u64_and_nat z 1 hz (by omega)
  have e1 : ((1 : Nat) : Int) = 1 := rfl
  rw [e1] at e
  rw [e, Nat.and_one_is_mod, h]; rfl
theorem and1_neq (z : Nat) (hz : z < 2 ^ 64) (h : ¬ z % 2 = 1) : (bits .and .u64 (z : Int) 1 == 1) = false := by
  have e := u64_and_nat z 1 hz (by omega)
  have e1 : ((1 : Nat) : Int) = 1 := rfl
  rw [e1] at e
  have h0 : z % 2 = 0 := by omega
  rw [e, Nat.and_one_is_mod, h0]; rfl
theorem some_more {z f : Nat} (h0 : ¬ z = 0) (h : z < 2 ^ f) : ∃ g, f = g + 1 := by
  cases f with
  | zero => exfalso; simp at h; exact h0 h
  | succ g => exact ⟨g, rfl⟩
theorem mdP_odd (p g z x y : Nat) (h0 : ¬ z = 0) (h : z % 2 = 1) : mdP p (g + 1) z x y = mdP p g (z / 2) (mdM p x x) (mdM p y x) := by
  conv => lhs; unfold mdP
  rw [if_neg h0, if_pos h]
theorem mdP_even (p g z x y : Nat) (h0 : ¬ z = 0) (h : ¬ z % 2 = 1) : mdP p (g + 1) z x y = mdP p g (z / 2) (mdM p x x) y := by
  conv => lhs; unfold mdP
  rw [if_neg h0, if_neg h]
def PR (_pb p a : Nat) (u o n : Value) : Prop := ∃ x y z f : Nat, x < p ∧ y < p ∧ z < 2 ^ f ∧ f ≤ 64 ∧ mdP p f z x y = mdP p 64 (p - 2) (mdT p a) 1 ∧ u = .int .u32 x ∧ o = .int .u32 y ∧ n = .int .u64 z
theorem finvW (pb p a : Nat) (w : World) (h : ModAt w pb p) (ha : a < 4294967296) : Calls Try.prog 144 #[.pointer (some ⟨pb, 0, none⟩), .int .u32 a] w fun e w' => e = .returned (.tuple #[.int .u32 ((mdOps p).inv a : Nat), .bool ((mdOps p).has a)]) ∧ Below w.heap.size w w' := by
  have HM := Lib.hid h
  obtain ⟨h1, h2, h3, h4⟩ := h
  have hp : 0 < p := by omega
  have t1 := mdT_lt p a hp
  by_cases h0 : mdT p a = 0
  · have H0 := Lib.hid (show (mdOps p).inv a = 0 ∧ (mdOps p).has a = false from ⟨by show mdI p a = 0; unfold mdI; rw [if_pos h0], by show (mdT p a != 0) = false; rw [h0]; rfl⟩)
    have hh : ((mdT p a : Nat) : Int) = 0 := by omega
    have hh2 : ((mdT p a : Nat) : Int) == 0 := by rw [hh]; rfl
    rw [H0.out.1, H0.out.2]
    clear h0 hh
    go_enter Try.func144, Try.ntmps144
    go_wp2_with (refine (mtold pb p a _ HM.out (by omega)).mono ?_; rintro e w' ⟨rfl, rfl⟩)
    go_ret2
    exact ⟨rfl, Below.refl _ _⟩
  · have H0 := Lib.hid (show (mdOps p).inv a = mdT p (mdP p 64 (p - 2) (mdT p a) 1) ∧ (mdOps p).has a = true from ⟨by show mdI p a = _; unfold mdI; rw [if_neg h0], by show (mdT p a != 0) = true; simp [h0]⟩)
    rw [H0.out.1, H0.out.2]
    have hh : (((mdT p a : Nat) : Int) == 0) = false := by rw [beq_eq_false_iff_ne]; omega
    clear h0
    go_enter Try.func144, Try.ntmps144
    go_wp2_with (refine (mtold pb p a _ HM.out (by omega)).mono ?_; rintro e w' ⟨rfl, rfl⟩)
    go_loop [1, 6, 7] (fun u o n => PR pb p a u o n) (fun _ _ n => (intOf n).toNat)
    case atStart => exact ⟨mdT p a, 1, p - 2, 64, t1, by omega, by omega, by omega, rfl, rfl, rfl, by congr 1; omega⟩
    case round =>
      obtain ⟨x, y, z, f, hx, hy, hz, hf, hr, rfl, rfl, rfl⟩ := hrel
      have HR := Lib.hid hr
      clear hr
      by_cases hz0 : z = 0
      · subst hz0
        have HE := Lib.hid (show y = mdP p 64 (p - 2) (mdT p a) 1 by rw [← HR.out]; cases f <;> simp [mdP])
        go_wp2_with (refine (mtold pb p y _ HM.out (by omega)).mono ?_; rintro e w' ⟨rfl, rfl⟩)
        go_ret2
        exact ⟨by first | rfl | (rw [← HE.out]; rfl), Below.refl _ _⟩
      · obtain ⟨g, rfl⟩ := some_more hz0 hz
        have hz2 : z / 2 < 2 ^ g := by rw [Nat.pow_succ] at hz; omega
        have HZ := Lib.hid hz2
        have HZ64 := Lib.hid (Nat.lt_of_lt_of_le hz (Nat.pow_le_pow_right (by omega) hf))
        clear hz hz2
        have hxx : mdM p x x < p := mdT_lt _ _ hp
        by_cases hodd : z % 2 = 1
        · have hb1 := and1_eq z HZ64.out hodd
          have hyx : mdM p y x < p := mdT_lt _ _ hp
          have HN := Lib.hid ((mdP_odd p g z x y hz0 hodd).symm.trans HR.out)
          clear hodd
          go_wp2_with fail
          refine (mmul pb p y x _ HM.out (by omega) (by omega)).mono ?_; rintro e w' ⟨rfl, rfl⟩
          go_wp2_with fail
          refine (mmul pb p x x _ HM.out (by omega) (by omega)).mono ?_; rintro e w' ⟨rfl, rfl⟩
          go_wp2
          go_round
          case rel => exact ⟨mdM p x x, mdM p y x, z / 2, g, hxx, hyx, HZ.out, by omega, HN.out, rfl, rfl, by congr 1⟩
          case measure => simp [intOf]; omega
        · have hb1 := and1_neq z HZ64.out hodd
          have HN := Lib.hid ((mdP_even p g z x y hz0 hodd).symm.trans HR.out)
          clear hodd
          go_wp2_with fail
          refine (mmul pb p x x _ HM.out (by omega) (by omega)).mono ?_; rintro e w' ⟨rfl, rfl⟩
          go_wp2
          go_round
          case rel => exact ⟨mdM p x x, y, z / 2, g, hxx, hy, HZ.out, by omega, HN.out, rfl, rfl, by congr 1⟩
          case measure => simp [intOf]; omega
/-- the field as matrices meet it -/
def FHW (pb p : Nat) (w : World) : Prop := ModAt w pb p
theorem FHW.below {pb p : Nat} {w w' : World} (h : FHW pb p w) (hb : Below w.heap.size w w') : FHW pb p w' := ModAt.below h hb
theorem zrW (pb p : Nat) (w : World) (h : FHW pb p w) : Calls Try.prog 148 #[.pointer (some ⟨pb, 0, none⟩)] w fun e w' => e = .returned (.int .u32 ((mdOps p).zero : Nat)) ∧ Below w.heap.size w w' := fzeroW pb p w h
theorem onW (pb p : Nat) (w : World) (h : FHW pb p w) : Calls Try.prog 146 #[.pointer (some ⟨pb, 0, none⟩)] w fun e w' => e = .returned (.int .u32 ((mdOps p).one : Nat)) ∧ Below w.heap.size w w' := foneW pb p w h
theorem adW (pb p a b : Nat) (w : World) (h : FHW pb p w) (ha : a < 4294967296) (hb : b < 4294967296) : Calls Try.prog 143 #[.pointer (some ⟨pb, 0, none⟩), .int .u32 a, .int .u32 b] w fun e w' => e = .returned (.int .u32 ((mdOps p).add a b : Nat)) ∧ Below w.heap.size w w' := faddW pb p a b w h ha hb
theorem sbW (pb p a b : Nat) (w : World) (h : FHW pb p w) (ha : a < 4294967296) (hb : b < 4294967296) : Calls Try.prog 147 #[.pointer (some ⟨pb, 0, none⟩), .int .u32 a, .int .u32 b] w fun e w' => e = .returned (.int .u32 ((mdOps p).sub a b : Nat)) ∧ Below w.heap.size w w' := fsubW pb p a b w h ha hb
theorem mlW (pb p a b : Nat) (w : World) (h : FHW pb p w) (ha : a < 4294967296) (hb : b < 4294967296) : Calls Try.prog 145 #[.pointer (some ⟨pb, 0, none⟩), .int .u32 a, .int .u32 b] w fun e w' => e = .returned (.int .u32 ((mdOps p).mul a b : Nat)) ∧ Below w.heap.size w w' := fmulW pb p a b w h ha hb
theorem ivW (pb p a : Nat) (w : World) (h : FHW pb p w) (ha : a < 4294967296) : Calls Try.prog 144 #[.pointer (some ⟨pb, 0, none⟩), .int .u32 a] w fun e w' => e = .returned (.tuple #[.int .u32 ((mdOps p).inv a : Nat), .bool ((mdOps p).has a)]) ∧ Below w.heap.size w w' := finvW pb p a w h ha
structure FLW (pb p : Nat) : Prop where
  zr : (mdOps p).zero < 4294967296
  on : (mdOps p).one < 4294967296
  ad : ∀ a b, a < 4294967296 → b < 4294967296 → (mdOps p).add a b < 4294967296
  sb : ∀ a b, a < 4294967296 → b < 4294967296 → (mdOps p).sub a b < 4294967296
  ml : ∀ a b, a < 4294967296 → b < 4294967296 → (mdOps p).mul a b < 4294967296
  iv : ∀ a, a < 4294967296 → (mdOps p).inv a < 4294967296
theorem FHW.lt {pb p : Nat} {w : World} (h : FHW pb p w) : FLW pb p := by
  obtain ⟨_, _, h3, h4⟩ := h
  have k : ∀ x, mdT p x < 4294967296 := fun x => by have := mdT_lt p x (by omega); omega
  exact ⟨by show 0 < 4294967296; omega, k 1, fun _ _ _ _ => k _, fun _ _ _ _ => k _, fun _ _ _ _ => k _, fun a _ => by
    show mdI p a < _; unfold mdI; split
    · omega
    · exact k _⟩
theorem naAdW (pb : Nat) (w : World) : (nilAhead 293 25 (.pointer (some ⟨pb, 0, none⟩)) "Add").run Try.prog w = .ok (some false) w := by kernel_rfl
theorem naSuW (pb : Nat) (w : World) : (nilAhead 293 25 (.pointer (some ⟨pb, 0, none⟩)) "Sub").run Try.prog w = .ok (some false) w := by kernel_rfl
theorem naMuW (pb : Nat) (w : World) : (nilAhead 293 25 (.pointer (some ⟨pb, 0, none⟩)) "Mul").run Try.prog w = .ok (some false) w := by kernel_rfl
theorem naInW (pb : Nat) (w : World) : (nilAhead 293 25 (.pointer (some ⟨pb, 0, none⟩)) "Inverse").run Try.prog w = .ok (some false) w := by kernel_rfl
theorem meZeW (pb : Nat) (w : World) : (method 293 25 (.pointer (some ⟨pb, 0, none⟩)) "Zero").run Try.prog w = .ok (148, (.pointer (some ⟨pb, 0, none⟩))) w := by kernel_rfl
theorem meOnW (pb : Nat) (w : World) : (method 293 25 (.pointer (some ⟨pb, 0, none⟩)) "One").run Try.prog w = .ok (146, (.pointer (some ⟨pb, 0, none⟩))) w := by kernel_rfl
theorem meAdW (pb : Nat) (w : World) : (method 293 25 (.pointer (some ⟨pb, 0, none⟩)) "Add").run Try.prog w = .ok (143, (.pointer (some ⟨pb, 0, none⟩))) w := by kernel_rfl
theorem meSuW (pb : Nat) (w : World) : (method 293 25 (.pointer (some ⟨pb, 0, none⟩)) "Sub").run Try.prog w = .ok (147, (.pointer (some ⟨pb, 0, none⟩))) w := by kernel_rfl
theorem meMuW (pb : Nat) (w : World) : (method 293 25 (.pointer (some ⟨pb, 0, none⟩)) "Mul").run Try.prog w = .ok (145, (.pointer (some ⟨pb, 0, none⟩))) w := by kernel_rfl
theorem meInW (pb : Nat) (w : World) : (method 293 25 (.pointer (some ⟨pb, 0, none⟩)) "Inverse").run Try.prog w = .ok (144, (.pointer (some ⟨pb, 0, none⟩))) w := by kernel_rfl
end Go.Proofs.Ytkibophcodhcbaa
