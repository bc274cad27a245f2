/- The field of 256 elements: its laws. No program. -/
import Derived.Test.YtkibophcodhcbaaSim
namespace Go.Proofs.Ytkibophcodhcbaa

theorem xt_xor : ∀ a, a < 256 → ∀ b, b < 256 → xt (a ^^^ b) = xt a ^^^ xt b := by
  have h : ((List.range 256).all fun a => (List.range 256).all fun b => xt (a ^^^ b) == xt a ^^^ xt b) = true := by decide +kernel
  intro a ha b hb
  have := List.all_eq_true.1 (List.all_eq_true.1 h a (List.mem_range.2 ha)) b (List.mem_range.2 hb)
  exact beq_iff_eq.1 this
theorem xor4 (a b c d : Nat) : (a ^^^ b) ^^^ (c ^^^ d) = (a ^^^ c) ^^^ (b ^^^ d) := by
  rw [Nat.xor_assoc, Nat.xor_assoc, ← Nat.xor_assoc b, Nat.xor_comm b c, Nat.xor_assoc c]
theorem xor_lt (a b : Nat) (ha : a < 256) (hb : b < 256) : a ^^^ b < 256 := Nat.xor_lt_two_pow (n := 8) (by omega) (by omega)
theorem gfL_0 : ∀ f a p, gfL f a 0 p = p
  | 0, _, _ => rfl
  | f + 1, a, p => by unfold gfL; rw [if_pos rfl]
theorem gfL_s (f a b p : Nat) : gfL (f + 1) a b p = gfL f (xt a) (b / 2) (if b % 2 = 1 then p ^^^ a else p) := by
  by_cases h : b = 0
  · subst h
    rw [gfL_0, if_neg (by omega), show 0 / 2 = 0 by omega, gfL_0]
  · show (if b = 0 then p else gfL f (xt a) (b / 2) (if b &&& 1 ≠ 0 then p ^^^ a else p)) = _
    rw [if_neg h, Nat.and_one_is_mod]
    by_cases e : b % 2 = 1
    · rw [if_pos (by omega), if_pos e]
    · rw [if_neg (by omega), if_neg e]
theorem gfL_a : ∀ f a a' b p p', a < 256 → a' < 256 → gfL f (a ^^^ a') b (p ^^^ p') = gfL f a b p ^^^ gfL f a' b p'
  | 0, _, _, _, _, _, _, _ => rfl
  | f + 1, a, a', b, p, p', h, h' => by
    rw [gfL_s, gfL_s, gfL_s, xt_xor a h a' h']
    by_cases e : b % 2 = 1
    · rw [if_pos e, if_pos e, if_pos e, xor4, gfL_a f _ _ _ _ _ (xt_lt a) (xt_lt a')]
    · rw [if_neg e, if_neg e, if_neg e, gfL_a f _ _ _ _ _ (xt_lt a) (xt_lt a')]
theorem gfL_b : ∀ f a b b' p p', gfL f a (b ^^^ b') (p ^^^ p') = gfL f a b p ^^^ gfL f a b' p'
  | 0, _, _, _, _, _ => rfl
  | f + 1, a, b, b', p, p' => by
    rw [gfL_s, gfL_s, gfL_s, ← gfL_b f (xt a)]
    have e : (b ^^^ b') / 2 = b / 2 ^^^ b' / 2 := Nat.xor_div_two
    have e2 : (b ^^^ b') % 2 = 1 ↔ ¬ (b % 2 = 1 ↔ b' % 2 = 1) := Nat.xor_mod_two_eq_one
    rw [e]
    congr 1
    by_cases h1 : b % 2 = 1 <;> by_cases h2 : b' % 2 = 1
    · rw [if_neg (fun h => e2.1 h (iff_of_true h1 h2)), if_pos h1, if_pos h2, xor4, Nat.xor_self, Nat.xor_zero]
    · rw [if_pos (e2.2 fun h => h2 (h.1 h1)), if_pos h1, if_neg h2, Nat.xor_assoc, Nat.xor_assoc, Nat.xor_comm p' a]
    · rw [if_pos (e2.2 fun h => h1 (h.2 h2)), if_neg h1, if_pos h2, Nat.xor_assoc]
    · rw [if_neg (fun h => e2.1 h (iff_of_false h1 h2)), if_neg h1, if_neg h2]
theorem gfM_a (a a' b : Nat) (h : a < 256) (h' : a' < 256) : gfM (a ^^^ a') b = gfM a b ^^^ gfM a' b := by
  have := gfL_a 8 a a' b 0 0 h h'
  rw [Nat.xor_self] at this
  exact this
theorem gfM_b (a b b' : Nat) : gfM a (b ^^^ b') = gfM a b ^^^ gfM a b' := by
  have := gfL_b 8 a b b' 0 0
  rw [Nat.xor_self] at this
  exact this
theorem lin_ext {f g : Nat → Nat} (hf : ∀ a b, a < 256 → b < 256 → f (a ^^^ b) = f a ^^^ f b) (hg : ∀ a b, a < 256 → b < 256 → g (a ^^^ b) = g a ^^^ g b) (h : ∀ k, k < 8 → f (2 ^ k) = g (2 ^ k)) :
    ∀ x, x < 256 → f x = g x := by
  have hb : ∀ k, k < 8 → ∀ y, y < 2 ^ k → 2 ^ k + y = 2 ^ k ^^^ y := by decide +kernel
  have key : ∀ k, k ≤ 8 → ∀ x, x < 2 ^ k → f x = g x := by
    intro k
    induction k with
    | zero =>
      intro _ x hx
      obtain rfl : x = 0 := by simpa using hx
      have h1 := hf 0 0 (by omega) (by omega)
      have h2 := hg 0 0 (by omega) (by omega)
      rw [Nat.xor_self, Nat.xor_self] at h1 h2
      rw [h1, h2]
    | succ k ih =>
      intro hk x hx
      by_cases hlt : x < 2 ^ k
      · exact ih (by omega) x hlt
      · have hp : 2 ^ (k + 1) = 2 ^ k * 2 := Nat.pow_succ 2 k
        have hp2 : 2 ^ k ≤ 2 ^ 7 := Nat.pow_le_pow_right (by omega) (by omega)
        have e := hb k (by omega) (x - 2 ^ k) (by omega)
        rw [show 2 ^ k + (x - 2 ^ k) = x by omega] at e
        rw [e, hf _ _ (by omega) (by omega), hg _ _ (by omega) (by omega), h k (by omega), ih (by omega) (x - 2 ^ k) (by omega)]
  exact fun x hx => key 8 (Nat.le_refl _) x hx
theorem gfM_c (a b : Nat) (ha : a < 256) (hb : b < 256) : gfM a b = gfM b a := by
  have h0 : ∀ k, k < 8 → ∀ j, j < 8 → gfM (2 ^ k) (2 ^ j) = gfM (2 ^ j) (2 ^ k) := by decide +kernel
  refine lin_ext (f := fun a => gfM a b) (g := fun a => gfM b a) (fun x y hx hy => gfM_a x y b hx hy) (fun x y _ _ => gfM_b b x y) (fun k hk => ?_) a ha
  exact lin_ext (f := fun b => gfM (2 ^ k) b) (g := fun b => gfM b (2 ^ k)) (fun x y _ _ => gfM_b _ x y) (fun x y hx hy => gfM_a x y _ hx hy) (fun j hj => h0 k hk j hj) b hb
theorem gfM_as (a b c : Nat) (ha : a < 256) (hb : b < 256) (hc : c < 256) : gfM (gfM a b) c = gfM a (gfM b c) := by
  have h0 : ∀ k, k < 8 → ∀ j, j < 8 → ∀ i, i < 8 → gfM (gfM (2 ^ k) (2 ^ j)) (2 ^ i) = gfM (2 ^ k) (gfM (2 ^ j) (2 ^ i)) := by decide +kernel
  have hp : ∀ k, k < 8 → 2 ^ k < 256 := by decide
  refine lin_ext (f := fun a => gfM (gfM a b) c) (g := fun a => gfM a (gfM b c)) (fun x y hx hy => by rw [gfM_a x y b hx hy, gfM_a _ _ _ (gfM_lt _ _ hx) (gfM_lt _ _ hy)]) (fun x y hx hy => gfM_a x y _ hx hy) (fun k hk => ?_) a ha
  refine lin_ext (f := fun b => gfM (gfM (2 ^ k) b) c) (g := fun b => gfM (2 ^ k) (gfM b c)) (fun x y _ _ => by rw [gfM_b, gfM_a _ _ _ (gfM_lt _ _ (hp k hk)) (gfM_lt _ _ (hp k hk))]) (fun x y hx hy => by rw [gfM_a x y c hx hy, gfM_b]) (fun j hj => ?_) b hb
  exact lin_ext (f := fun c => gfM (gfM (2 ^ k) (2 ^ j)) c) (g := fun c => gfM (2 ^ k) (gfM (2 ^ j) c)) (fun x y _ _ => gfM_b _ x y) (fun x y _ _ => by rw [gfM_b, gfM_b]) (fun i hi => h0 k hk j hj i hi) c hc
theorem gfLaw : FLaw gfOps 256 where
  zr := by decide
  on := by decide
  ad := xor_lt
  sb := xor_lt
  ml a b ha _ := gfM_lt a b ha
  iv a ha := gfI_lt a ha
  adc a b _ _ := Nat.xor_comm a b
  ada a b c _ _ _ := Nat.xor_assoc a b c
  adz a _ := Nat.xor_zero a
  sba a b _ _ := by show (a ^^^ b) ^^^ b = a; rw [Nat.xor_assoc, Nat.xor_self, Nat.xor_zero]
  mlc := gfM_c
  mla := gfM_as
  mlo := by
    have h : ∀ a, a < 256 → gfM a 1 = a := by decide +kernel
    exact h
  mld a b c _ _ _ := gfM_b a b c
  ivm := by
    have h : ∀ a, a < 256 → (a != 0) = true → gfM a (gfI a) = 1 := by decide +kernel
    exact h
  hsz a _ h := by
    have : (a != 0) = false := h
    show a = 0
    simpa using this
  ne := by decide
end Go.Proofs.Ytkibophcodhcbaa
