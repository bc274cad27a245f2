/- The walks of package gf's Mul and Inv, and of gf.Field's methods. -/
import Derived.Test.YtkibophcodhcbaaBase
namespace Go.Proofs.Ytkibophcodhcbaa
open Go.RowKit

theorem ne0 (n : Nat) : ((n : Int) != 0) = decide (n ≠ 0) := by
  by_cases h : n = 0
  · subst h; rfl
  · rw [decide_eq_true h, bne_iff_ne]; omega
theorem and1_ne (y : Nat) (hy : y < 256) : (bits .and .u8 (y : Int) 1 != 0) = decide (y &&& 1 ≠ 0) := by
  have h := u8_and_nat y 1 hy (by omega)
  have e : ((1 : Nat) : Int) = 1 := rfl
  rw [e] at h; rw [h]; exact ne0 _
theorem and128_ne (x : Nat) (hx : x < 256) : (bits .and .u8 (x : Int) 128 != 0) = decide (x &&& 128 ≠ 0) := by
  have h := u8_and_nat x 128 hx (by omega)
  have e : ((128 : Nat) : Int) = 128 := rfl
  rw [e] at h; rw [h]; exact ne0 _
theorem gf_step (f x y z p : Nat) (h : gfL (f + 1) x y z = p) (hy : y ≠ 0) : gfL f (xt x) (y / 2) (if y &&& 1 ≠ 0 then z ^^^ x else z) = p := by
  rw [← h]; conv => rhs; unfold gfL
  rw [if_neg hy]
def gfRel (a b : Nat) (x y z : Nat) : Prop := x < 256 ∧ y < 256 ∧ z < 256 ∧ ∃ f, y < 2 ^ f ∧ gfL f x y z = gfM a b
theorem gfRel_next {a b x y z : Nat} (h : gfRel a b x y z) (hy : y ≠ 0) : gfRel a b (xt x) (y / 2) (if y &&& 1 ≠ 0 then z ^^^ x else z) := by
  obtain ⟨h1, h2, h3, f, h4, h5⟩ := h
  refine ⟨xt_lt x, by omega, ?_, ?_⟩
  · split
    · exact Nat.xor_lt_two_pow (n := 8) (by omega) (by omega)
    · exact h3
  · cases f with
    | zero => exfalso; simp at h4; exact hy h4
    | succ f => exact ⟨f, by rw [Nat.pow_succ] at h4; omega, gf_step f x y z _ h5 hy⟩
theorem gfRel_end {a b x z : Nat} (h : gfRel a b x 0 z) : z = gfM a b := by
  obtain ⟨h1, h2, h3, f, h4, h5⟩ := h
  rw [← h5]; cases f <;> simp [gfL]
theorem xt_yes (x : Nat) (hx : x < 256) (h : (bits .and .u8 (x : Int) 128 != 0) = true) : bits .xor .u8 ((x : Int) * 2 % 256) 29 = ((xt x : Nat) : Int) := by
  rw [and128_ne x hx] at h
  have h' := u8_xor_nat (x * 2 % 256) 29 (by omega) (by omega)
  have e : ((29 : Nat) : Int) = 29 := rfl
  have e2 : (((x * 2 % 256 : Nat)) : Int) = (x : Int) * 2 % 256 := by omega
  rw [e, e2] at h'
  rw [h']; unfold xt; rw [if_pos (of_decide_eq_true h)]
theorem xt_no (x : Nat) (hx : x < 256) (h : (bits .and .u8 (x : Int) 128 != 0) = false) : (x : Int) * 2 % 256 = ((xt x : Nat) : Int) := by
  rw [and128_ne x hx] at h
  unfold xt; rw [if_neg (of_decide_eq_false h)]; omega
theorem px_yes (x y z : Nat) (hx : x < 256) (hy : y < 256) (hz : z < 256) (h : (bits .and .u8 (y : Int) 1 != 0) = true) : bits .xor .u8 (z : Int) (x : Int) = ((if y &&& 1 ≠ 0 then z ^^^ x else z : Nat) : Int) := by
  rw [and1_ne y hy] at h
  rw [u8_xor_nat z x hz hx, if_pos (of_decide_eq_true h)]
theorem px_no (x y z : Nat) (hy : y < 256) (h : (bits .and .u8 (y : Int) 1 != 0) = false) : (z : Int) = ((if y &&& 1 ≠ 0 then z ^^^ x else z : Nat) : Int) := by
  rw [and1_ne y hy] at h
  rw [if_neg (of_decide_eq_false h)]
def GR (a b : Nat) (u v t : Value) : Prop := ∃ x y z : Nat, gfRel a b x y z ∧ u = .int .u8 x ∧ v = .int .u8 y ∧ t = .int .u8 z
theorem GR_next {a b x y z : Nat} {X Z : Int} (h : gfRel a b x y z) (hy : y ≠ 0) (hX : X = ((xt x : Nat) : Int)) (hZ : Z = ((if y &&& 1 ≠ 0 then z ^^^ x else z : Nat) : Int)) :
    GR a b (.int .u8 X) (.int .u8 ((y : Int) / 2)) (.int .u8 Z) :=
  ⟨_, _, _, gfRel_next h hy, by rw [hX], by congr 1, by rw [hZ]⟩

theorem gmul (a b : Nat) (w : World) (ha : a < 256) (hb : b < 256) : Calls Try.prog 104 #[.int .u8 a, .int .u8 b] w fun e w' => e = .returned (.int .u8 (gfM a b : Nat)) ∧ w = w' := by
  go_enter Try.func104, Try.ntmps104
  go_wp2
  go_loop [0, 1, 5] (fun u v t => GR a b u v t) (fun _ v _ => (intOf v).toNat)
  case atStart => exact ⟨a, b, 0, ⟨ha, hb, by omega, 8, hb, rfl⟩, rfl, rfl, rfl⟩
  case round =>
    obtain ⟨x, y, z, hr, rfl, rfl, rfl⟩ := hrel
    have hx : x < 256 := hr.1
    have hy : y < 256 := hr.2.1
    have hz : z < 256 := hr.2.2.1
    by_cases hy0 : y = 0
    · subst hy0
      have HE := Lib.hid (gfRel_end hr)
      clear hr
      go_wp2
      go_ret
      exact ⟨ret_int (by rw [HE.out]), rfl⟩
    · have hh : ((y : Int) != 0) = true := by simp [hy0]
      have HR := Lib.hid hr
      clear hr
      go_wp2
      · have c1 : (bits .and .u8 (y : Int) 1 != 0) = true := by assumption
        have c2 : (bits .and .u8 (x : Int) 128 != 0) = true := by assumption
        go_round
        case rel => exact GR_next HR.out hy0 (xt_yes x hx c2) (px_yes x y z hx hy hz c1)
        case measure => simp [intOf]; omega
      · have c1 : (bits .and .u8 (y : Int) 1 != 0) = true := by assumption
        have c2 : (bits .and .u8 (x : Int) 128 != 0) = false := by assumption
        go_round
        case rel => exact GR_next HR.out hy0 (xt_no x hx c2) (px_yes x y z hx hy hz c1)
        case measure => simp [intOf]; omega
      · have c1 : (bits .and .u8 (y : Int) 1 != 0) = false := by assumption
        have c2 : (bits .and .u8 (x : Int) 128 != 0) = true := by assumption
        go_round
        case rel => exact GR_next HR.out hy0 (xt_yes x hx c2) (px_no x y z hy c1)
        case measure => simp [intOf]; omega
      · have c1 : (bits .and .u8 (y : Int) 1 != 0) = false := by assumption
        have c2 : (bits .and .u8 (x : Int) 128 != 0) = false := by assumption
        go_round
        case rel => exact GR_next HR.out hy0 (xt_no x hx c2) (px_no x y z hy c1)
        case measure => simp [intOf]; omega

def IR (a : Nat) (u t c : Value) : Prop := ∃ x p k : Nat, x < 256 ∧ p < 256 ∧ k ≤ 7 ∧ gfP (7 - k) x p = gfP 7 a 1 ∧ u = .int .u8 x ∧ t = .int .u8 p ∧ c = .int .i64 k
theorem ginv (a : Nat) (w : World) (ha : a < 256) : Calls Try.prog 40 #[.int .u8 a] w fun e w' => e = .returned (.tuple #[.int .u8 (gfI a : Nat), .int .i64 (if a = 0 then 60 else 0 : Nat)]) ∧ w = w' := by
  by_cases h0 : a = 0
  · subst h0
    go_enter Try.func40, Try.ntmps40
    go_wp2
    go_ret2
    exact ⟨rfl, rfl⟩
  · have hh : ((a : Int) == 0) = false := by simp [h0]
    have HF := Lib.hid (show gfI a = gfP 7 a 1 by unfold gfI; rw [if_neg h0])
    have H0 := Lib.hid h0
    clear h0
    go_enter Try.func40, Try.ntmps40
    go_wp2
    go_loop [0, 4, 7] (fun u t c => IR a u t c) (fun _ _ c => 7 - (intOf c).toNat)
    case atStart => exact ⟨a, 1, 0, ha, by omega, by omega, rfl, rfl, rfl, rfl⟩
    case round =>
      obtain ⟨x, p, k, hx, hp, hk, hr, rfl, rfl, rfl⟩ := hrel
      have HR := Lib.hid hr
      clear hr
      have hxx := gfM_lt x x hx
      have hpx := gfM_lt p (gfM x x) hp
      by_cases hlt : k < 7
      · go_wp2_with fail
        refine (gmul x x _ hx hx).mono ?_; rintro e w' ⟨rfl, rfl⟩
        go_wp2_with fail
        refine (gmul p (gfM x x) _ hp hxx).mono ?_; rintro e w' ⟨rfl, rfl⟩
        go_wp2
        go_round
        case rel =>
          refine ⟨gfM x x, gfM p (gfM x x), k + 1, hxx, hpx, by omega, ?_, rfl, rfl, by go_num⟩
          rw [← HR.out, show 7 - k = (7 - (k + 1)) + 1 by omega]; rfl
        case measure => simp [intOf]; omega
      · obtain rfl : k = 7 := by omega
        go_wp2
        go_ret2
        have h : p = gfP 7 a 1 := HR.out
        refine ⟨?_, rfl⟩
        rw [HF.out, ← h]; rfl

theorem fzeroB (w : World) : Calls Try.prog 158 #[.agg #[]] w fun e w' => e = .returned (.int .u8 (gfOps.zero : Nat)) ∧ Below w.heap.size w w' := by
  go_enter Try.func158, Try.ntmps158
  go_wp2
  go_ret
  exact ⟨rfl, by go_grown⟩
theorem foneB (w : World) : Calls Try.prog 156 #[.agg #[]] w fun e w' => e = .returned (.int .u8 (gfOps.one : Nat)) ∧ Below w.heap.size w w' := by
  go_enter Try.func156, Try.ntmps156
  go_wp2
  go_ret
  exact ⟨rfl, by go_grown⟩
theorem faddB (a b : Nat) (w : World) (ha : a < 256) (hb : b < 256) : Calls Try.prog 153 #[.agg #[], .int .u8 a, .int .u8 b] w fun e w' => e = .returned (.int .u8 (gfOps.add a b : Nat)) ∧ Below w.heap.size w w' := by
  go_enter Try.func153, Try.ntmps153
  go_wp2
  go_ret
  exact ⟨ret_int (by rw [u8_xor_nat a b ha hb]; rfl), by go_grown⟩
theorem fsubB (a b : Nat) (w : World) (ha : a < 256) (hb : b < 256) : Calls Try.prog 157 #[.agg #[], .int .u8 a, .int .u8 b] w fun e w' => e = .returned (.int .u8 (gfOps.sub a b : Nat)) ∧ Below w.heap.size w w' := by
  go_enter Try.func157, Try.ntmps157
  go_wp2
  go_ret
  exact ⟨ret_int (by rw [u8_xor_nat a b ha hb]; rfl), by go_grown⟩
theorem fmulB (a b : Nat) (w : World) (ha : a < 256) (hb : b < 256) : Calls Try.prog 155 #[.agg #[], .int .u8 a, .int .u8 b] w fun e w' => e = .returned (.int .u8 (gfOps.mul a b : Nat)) ∧ Below w.heap.size w w' := by
  go_enter Try.func155, Try.ntmps155
  go_wp2_with (refine (gmul a b _ ha hb).mono ?_; rintro e w' ⟨rfl, rfl⟩)
  go_ret
  exact ⟨rfl, by go_grown⟩
theorem finvB (a : Nat) (w : World) (ha : a < 256) : Calls Try.prog 154 #[.agg #[], .int .u8 a] w fun e w' => e = .returned (.tuple #[.int .u8 (gfOps.inv a : Nat), .bool (gfOps.has a)]) ∧ Below w.heap.size w w' := by
  by_cases h0 : a = 0
  · subst h0
    go_enter Try.func154, Try.ntmps154
    go_wp2_with (refine (ginv 0 _ (by omega)).mono ?_; rintro e w' ⟨rfl, rfl⟩)
    go_ret2
    exact ⟨rfl, by go_grown⟩
  · have H : Calls Try.prog 40 #[.int .u8 a] (w.alloc (.cells #[] 81)) fun e w' => e = .returned (.tuple #[.int .u8 (gfI a : Nat), .int .i64 0]) ∧ (w.alloc (.cells #[] 81)) = w' := by
      refine (ginv a _ ha).mono fun e w' h => ?_
      rw [if_neg h0] at h; exact h
    have h1 : gfOps.has a = true := by show (a != 0) = true; simp [h0]
    rw [h1]
    clear h1 h0
    have HH := Lib.hid H
    clear H
    go_enter Try.func154, Try.ntmps154
    go_wp2_with (refine HH.out.mono ?_; rintro e w' ⟨rfl, rfl⟩)
    go_ret2
    exact ⟨rfl, by go_grown⟩
/-- the field as matrices meet it (nothing in memory) -/
def FHB (_w : World) : Prop := True
theorem FHB.below {w w' : World} (_h : FHB w) (_hb : Below w.heap.size w w') : FHB w' := trivial
theorem zrB (w : World) (_h : FHB w) : Calls Try.prog 158 #[.agg #[]] w fun e w' => e = .returned (.int .u8 (gfOps.zero : Nat)) ∧ Below w.heap.size w w' := fzeroB w
theorem onB (w : World) (_h : FHB w) : Calls Try.prog 156 #[.agg #[]] w fun e w' => e = .returned (.int .u8 (gfOps.one : Nat)) ∧ Below w.heap.size w w' := foneB w
theorem adB (a b : Nat) (w : World) (_h : FHB w) (ha : a < 256) (hb : b < 256) : Calls Try.prog 153 #[.agg #[], .int .u8 a, .int .u8 b] w fun e w' => e = .returned (.int .u8 (gfOps.add a b : Nat)) ∧ Below w.heap.size w w' := faddB a b w ha hb
theorem sbB (a b : Nat) (w : World) (_h : FHB w) (ha : a < 256) (hb : b < 256) : Calls Try.prog 157 #[.agg #[], .int .u8 a, .int .u8 b] w fun e w' => e = .returned (.int .u8 (gfOps.sub a b : Nat)) ∧ Below w.heap.size w w' := fsubB a b w ha hb
theorem mlB (a b : Nat) (w : World) (_h : FHB w) (ha : a < 256) (hb : b < 256) : Calls Try.prog 155 #[.agg #[], .int .u8 a, .int .u8 b] w fun e w' => e = .returned (.int .u8 (gfOps.mul a b : Nat)) ∧ Below w.heap.size w w' := fmulB a b w ha hb
theorem ivB (a : Nat) (w : World) (_h : FHB w) (ha : a < 256) : Calls Try.prog 154 #[.agg #[], .int .u8 a] w fun e w' => e = .returned (.tuple #[.int .u8 (gfOps.inv a : Nat), .bool (gfOps.has a)]) ∧ Below w.heap.size w w' := finvB a w ha
structure FLB : Prop where
  zr : gfOps.zero < 256
  on : gfOps.one < 256
  ad : ∀ a b, a < 256 → b < 256 → gfOps.add a b < 256
  sb : ∀ a b, a < 256 → b < 256 → gfOps.sub a b < 256
  ml : ∀ a b, a < 256 → b < 256 → gfOps.mul a b < 256
  iv : ∀ a, a < 256 → gfOps.inv a < 256
theorem FHB.lt {w : World} (_h : FHB w) : FLB := ⟨by decide, by decide, fun a b h1 h2 => gfX_lt a b h1 h2, fun a b h1 h2 => gfX_lt a b h1 h2, fun a b h1 _ => gfM_lt a b h1, fun a h => gfI_lt a h⟩
theorem naAdB (w : World) : (nilAhead 293 81 (.agg #[]) "Add").run Try.prog w = .ok (some false) w := by kernel_rfl
theorem naSuB (w : World) : (nilAhead 293 81 (.agg #[]) "Sub").run Try.prog w = .ok (some false) w := by kernel_rfl
theorem naMuB (w : World) : (nilAhead 293 81 (.agg #[]) "Mul").run Try.prog w = .ok (some false) w := by kernel_rfl
theorem naInB (w : World) : (nilAhead 293 81 (.agg #[]) "Inverse").run Try.prog w = .ok (some false) w := by kernel_rfl
theorem meZeB (w : World) : (method 293 81 (.agg #[]) "Zero").run Try.prog w = .ok (158, (.agg #[])) w := by kernel_rfl
theorem meOnB (w : World) : (method 293 81 (.agg #[]) "One").run Try.prog w = .ok (156, (.agg #[])) w := by kernel_rfl
theorem meAdB (w : World) : (method 293 81 (.agg #[]) "Add").run Try.prog w = .ok (153, (.agg #[])) w := by kernel_rfl
theorem meSuB (w : World) : (method 293 81 (.agg #[]) "Sub").run Try.prog w = .ok (157, (.agg #[])) w := by kernel_rfl
theorem meMuB (w : World) : (method 293 81 (.agg #[]) "Mul").run Try.prog w = .ok (155, (.agg #[])) w := by kernel_rfl
theorem meInB (w : World) : (method 293 81 (.agg #[]) "Inverse").run Try.prog w = .ok (154, (.agg #[])) w := by kernel_rfl
end Go.Proofs.Ytkibophcodhcbaa
