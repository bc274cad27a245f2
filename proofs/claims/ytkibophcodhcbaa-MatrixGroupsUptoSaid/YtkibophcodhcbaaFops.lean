/- The elements' arithmetic as plain functions of natural numbers: the field of 256 elements, the numbers modulo p. No program. -/
namespace Go.Proofs.Ytkibophcodhcbaa

structure FOps where
  zero : Nat
  one : Nat
  add : Nat → Nat → Nat
  sub : Nat → Nat → Nat
  mul : Nat → Nat → Nat
  inv : Nat → Nat
  has : Nat → Bool

def xt (x : Nat) : Nat := if x &&& 128 ≠ 0 then (x * 2 % 256) ^^^ 29 else x * 2 % 256
def gfL : Nat → Nat → Nat → Nat → Nat
  | 0, _, _, p => p
  | f + 1, a, b, p => if b = 0 then p else gfL f (xt a) (b / 2) (if b &&& 1 ≠ 0 then p ^^^ a else p)
def gfM (a b : Nat) : Nat := gfL 8 a b 0
def gfP : Nat → Nat → Nat → Nat
  | 0, _, p => p
  | k + 1, a, p => gfP k (gfM a a) (gfM p (gfM a a))
def gfI (a : Nat) : Nat := if a = 0 then 0 else gfP 7 a 1
def gfX (a b : Nat) : Nat := a ^^^ b
def gfOps : FOps := ⟨0, 1, gfX, gfX, gfM, gfI, fun a => a != 0⟩

def mdT (p x : Nat) : Nat := x % p
def mdA (p a b : Nat) : Nat := mdT p (a + b)
def mdS (p a b : Nat) : Nat := mdT p (a + p - b % p)
def mdM (p a b : Nat) : Nat := mdT p (mdT p a * mdT p b)
def mdP (p : Nat) : Nat → Nat → Nat → Nat → Nat
  | 0, _, _, o => o
  | f + 1, n, a, o => if n = 0 then o else mdP p f (n / 2) (mdM p a a) (if n % 2 = 1 then mdM p o a else o)
def mdI (p a : Nat) : Nat := if mdT p a = 0 then 0 else mdT p (mdP p 64 (p - 2) (mdT p a) 1)
def mdOps (p : Nat) : FOps := ⟨0, mdT p 1, mdA p, mdS p, mdM p, mdI p, fun a => mdT p a != 0⟩

theorem xt_lt (x : Nat) : xt x < 256 := by
  unfold xt
  have h : x * 2 % 256 < 2 ^ 8 := by omega
  split
  · exact Nat.xor_lt_two_pow h (by omega)
  · exact h
theorem gfL_lt : ∀ (f a b p : Nat), a < 256 → p < 256 → gfL f a b p < 256 := by
  intro f
  induction f with
  | zero => intro a b p _ hp; exact hp
  | succ f ih =>
    intro a b p ha hp
    unfold gfL
    split
    · exact hp
    · refine ih _ _ _ (xt_lt a) ?_
      split
      · exact Nat.xor_lt_two_pow (n := 8) (by omega) (by omega)
      · exact hp
theorem gfM_lt (a b : Nat) (ha : a < 256) : gfM a b < 256 := gfL_lt _ _ _ _ ha (by omega)
theorem gfX_lt (a b : Nat) (ha : a < 256) (hb : b < 256) : gfX a b < 256 := Nat.xor_lt_two_pow (n := 8) (by omega) (by omega)
theorem gfP_lt : ∀ (k a p : Nat), a < 256 → p < 256 → gfP k a p < 256 := by
  intro k
  induction k with
  | zero => intro a p _ hp; exact hp
  | succ k ih => intro a p ha hp; exact ih _ _ (gfM_lt _ _ ha) (gfM_lt _ _ hp)
theorem gfI_lt (a : Nat) (ha : a < 256) : gfI a < 256 := by
  unfold gfI; split
  · omega
  · exact gfP_lt _ _ _ ha (by omega)
theorem mdT_lt (p x : Nat) (h : 0 < p) : mdT p x < p := Nat.mod_lt _ h

/-- the sum of the products of the first n places -/
def dotN (F : FOps) (a b : Nat → Nat) : Nat → Nat
  | 0 => F.zero
  | k + 1 => F.add (dotN F a b k) (F.mul (a k) (b k))
theorem dotN_lt {F : FOps} {M : Nat} {a b : Nat → Nat} (hz : F.zero < M) (ha : ∀ x y, x < M → y < M → F.add x y < M) (hm : ∀ x y, x < M → y < M → F.mul x y < M) (h1 : ∀ k, a k < M) (h2 : ∀ k, b k < M) :
    ∀ k, dotN F a b k < M
  | 0 => hz
  | k + 1 => ha _ _ (dotN_lt hz ha hm h1 h2 k) (hm _ _ (h1 k) (h2 k))
/-- are the first n places alike? -/
def eqN (f g : Nat → Nat) : Nat → Bool
  | 0 => true
  | k + 1 => eqN f g k && f k == g k
theorem eqN_iff (f g : Nat → Nat) : ∀ n, eqN f g n = true ↔ ∀ j, j < n → f j = g j
  | 0 => by simp [eqN]
  | n + 1 => by
    simp only [eqN, Bool.and_eq_true, eqN_iff f g n, beq_iff_eq]
    constructor
    · intro ⟨h, e⟩ j hj
      by_cases hjn : j = n
      · subst hjn; exact e
      · exact h j (by omega)
    · intro h
      exact ⟨fun j hj => h j (by omega), h n (by omega)⟩
theorem eqN_no (f g : Nat → Nat) {t n : Nat} (h : f t ≠ g t) (hn : t < n) : eqN f g n = false := by
  cases e : eqN f g n with
  | false => rfl
  | true => exact absurd ((eqN_iff f g n).1 e t hn) h
/-- have two matrices the same rows? -/
def eqM (A B : Nat → Nat → Nat) (c c' : Nat) : Nat → Bool
  | 0 => true
  | k + 1 => eqM A B c c' k && (c == c' && eqN (A k) (B k) c)
theorem eqM_iff (A B : Nat → Nat → Nat) (c : Nat) : ∀ n, eqM A B c c n = true ↔ ∀ i, i < n → ∀ j, j < c → A i j = B i j
  | 0 => by simp [eqM]
  | n + 1 => by
    simp only [eqM, Bool.and_eq_true, eqM_iff A B c n, eqN_iff, beq_self_eq_true, true_and]
    constructor
    · intro ⟨h, e⟩ j hj
      by_cases hjn : j = n
      · subst hjn; exact e
      · exact h j (by omega)
    · intro h
      exact ⟨fun j hj => h j (by omega), h n (by omega)⟩
theorem eqM_no (A B : Nat → Nat → Nat) {c c' t : Nat} (h : (c == c' && eqN (A t) (B t) c) = false) : ∀ n, t < n → eqM A B c c' n = false
  | 0, hn => absurd hn (by omega)
  | n + 1, hn => by
    by_cases e : t = n
    · subst e; simp only [eqM, h, Bool.and_false]
    · simp only [eqM, eqM_no A B h n (by omega), Bool.false_and]
/-- row own is taken from all others, so often that they have nought in column q -/
def clN (F : FOps) (A : Nat → Nat → Nat) (own q i j : Nat) : Nat := if i = own then A i j else F.sub (A i j) (F.mul (A i q) (A own j))
/-- likewise, rows below k alone -/
def clK (F : FOps) (A : Nat → Nat → Nat) (own q k i j : Nat) : Nat := if i < k then clN F A own q i j else A i j
/-- likewise, and of row k the first t places -/
def clT (F : FOps) (A : Nat → Nat → Nat) (own q k t i j : Nat) : Nat := if i < k ∨ (i = k ∧ j < t) then clN F A own q i j else A i j
theorem clK_self {F : FOps} {A : Nat → Nat → Nat} {own q k j : Nat} : clK F A own q k k j = A k j := if_neg (by omega)
theorem clK_own {F : FOps} {A : Nat → Nat → Nat} {own q k i j : Nat} (h : k = own) : clK F A own q k i j = clK F A own q (k + 1) i j := by
  unfold clK
  by_cases e : i = k
  · subst e; rw [if_neg (by omega), if_pos (by omega)]; unfold clN; rw [if_pos h]
  · by_cases e2 : i < k
    · rw [if_pos e2, if_pos (by omega)]
    · rw [if_neg e2, if_neg (by omega)]
theorem clT_zero {F : FOps} {A : Nat → Nat → Nat} {own q k i j : Nat} (_h : k ≠ own) : clT F A own q k 0 i j = clK F A own q k i j := by
  unfold clT clK
  by_cases e2 : i < k
  · rw [if_pos (.inl e2), if_pos e2]
  · rw [if_neg (by omega), if_neg e2]
theorem clT_full {F : FOps} {A : Nat → Nat → Nat} {own q k c i j : Nat} (hj : j < c) : clT F A own q k c i j = clK F A own q (k + 1) i j := by
  unfold clT clK
  by_cases e2 : i < k + 1
  · rw [if_pos (by omega), if_pos e2]
  · rw [if_neg (by omega), if_neg e2]
theorem clT_at {F : FOps} {A : Nat → Nat → Nat} {own q k t : Nat} : clT F A own q k t k t = A k t := if_neg (by omega)
theorem clT_own {F : FOps} {A : Nat → Nat → Nat} {own q k t j : Nat} : clT F A own q k t own j = A own j := by
  unfold clT
  split
  · unfold clN; rw [if_pos rfl]
  · rfl
theorem clT_next {F : FOps} {A : Nat → Nat → Nat} {own q k t i j : Nat} (h : k ≠ own) : (if i = k ∧ j = t then F.sub (A k t) (F.mul (A k q) (A own t)) else clT F A own q k t i j) = clT F A own q k (t + 1) i j := by
  unfold clT
  by_cases e : i = k ∧ j = t
  · obtain ⟨rfl, rfl⟩ := e
    rw [if_pos ⟨rfl, rfl⟩, if_pos (by omega)]; unfold clN; rw [if_neg h]
  · rw [if_neg e]
    by_cases e2 : i < k ∨ (i = k ∧ j < t)
    · rw [if_pos e2, if_pos (by omega)]
    · rw [if_neg e2, if_neg (by omega)]
/-- the first of the rows i, i + 1, .. (so many) that has no nought in column q -/
def pvt (F : FOps) (A : Nat → Nat → Nat) (q : Nat) : Nat → Nat → Option Nat
  | 0, _ => none
  | k + 1, i => if F.has (A i q) then some i else pvt F A q k (i + 1)
def swN (A : Nat → Nat → Nat) (r i x j : Nat) : Nat := if x = r then A i j else if x = i then A r j else A x j
def scN (F : FOps) (A : Nat → Nat → Nat) (r b x j : Nat) : Nat := if x = r then F.mul (A x j) b else A x j
def scT (F : FOps) (A : Nat → Nat → Nat) (r b t x j : Nat) : Nat := if x = r ∧ j < t then F.mul (A x j) b else A x j
/-- one column: the rank so far, and the rows -/
def redS (F : FOps) (n q : Nat) (s : Nat × (Nat → Nat → Nat)) : Nat × (Nat → Nat → Nat) :=
  match pvt F s.2 q (n - s.1) s.1 with
  | none => s
  | some i => (s.1 + 1, clN F (scN F (swN s.2 s.1 i) s.1 (F.inv (s.2 i q))) s.1 q)
def redN (F : FOps) (n : Nat) (A : Nat → Nat → Nat) : Nat → Nat × (Nat → Nat → Nat)
  | 0 => (0, A)
  | k + 1 => redS F n k (redN F n A k)
theorem pvt_none {F : FOps} {A : Nat → Nat → Nat} {q : Nat} : ∀ k i, (∀ x, i ≤ x → x < i + k → F.has (A x q) = false) → pvt F A q k i = none
  | 0, _, _ => rfl
  | k + 1, i, h => by
    unfold pvt
    rw [h i (Nat.le_refl _) (by omega)]
    exact pvt_none k (i + 1) fun x h1 h2 => h x (by omega) (by omega)
theorem pvt_some {F : FOps} {A : Nat → Nat → Nat} {q y : Nat} (hy : F.has (A y q) = true) : ∀ k i, i ≤ y → y < i + k → (∀ x, i ≤ x → x < y → F.has (A x q) = false) → pvt F A q k i = some y
  | 0, _, h1, h2, _ => absurd h2 (by omega)
  | k + 1, i, h1, h2, h => by
    unfold pvt
    by_cases e : i = y
    · subst e; rw [hy]; rfl
    · rw [h i (Nat.le_refl _) (by omega)]
      exact pvt_some hy k (i + 1) (by omega) (by omega) fun x h3 h4 => h x (by omega) h4
structure OpsLt (F : FOps) (M : Nat) : Prop where
  sb : ∀ a b, a < M → b < M → F.sub a b < M
  ml : ∀ a b, a < M → b < M → F.mul a b < M
  iv : ∀ a, a < M → F.inv a < M
theorem redS_lt {F : FOps} {M n q : Nat} (hL : OpsLt F M) {s : Nat × (Nat → Nat → Nat)} (h : ∀ i j, s.2 i j < M) : ∀ i j, (redS F n q s).2 i j < M := by
  intro i j
  unfold redS
  split
  · exact h i j
  · rename_i y _
    have hsw : ∀ i j, swN s.2 s.1 y i j < M := fun i j => by
      unfold swN; split
      · exact h _ _
      · split <;> exact h _ _
    have hsc : ∀ i j, scN F (swN s.2 s.1 y) s.1 (F.inv (s.2 y q)) i j < M := fun i j => by
      unfold scN; split
      · exact hL.ml _ _ (hsw _ _) (hL.iv _ (h _ _))
      · exact hsw _ _
    show clN F _ s.1 q i j < M
    unfold clN; split
    · exact hsc _ _
    · exact hL.sb _ _ (hsc _ _) (hL.ml _ _ (hsc _ _) (hsc _ _))
theorem redN_lt {F : FOps} {M n : Nat} (hL : OpsLt F M) {A : Nat → Nat → Nat} (h : ∀ i j, A i j < M) : ∀ k i j, (redN F n A k).2 i j < M
  | 0 => h
  | k + 1 => redS_lt hL (redN_lt hL h k)
theorem pvt_lt {F : FOps} {A : Nat → Nat → Nat} {q y : Nat} : ∀ k i, pvt F A q k i = some y → i ≤ y ∧ y < i + k
  | 0, _, h => by cases h
  | k + 1, i, h => by
    unfold pvt at h
    split at h
    · injection h with h; omega
    · have := pvt_lt k (i + 1) h; omega
theorem redS_rank {F : FOps} {n q : Nat} {s : Nat × (Nat → Nat → Nat)} (h : s.1 ≤ n) : s.1 ≤ (redS F n q s).1 ∧ (redS F n q s).1 ≤ n ∧ (redS F n q s).1 ≤ s.1 + 1 := by
  unfold redS
  split
  · omega
  · rename_i y hy
    have := pvt_lt _ _ hy
    show s.1 ≤ s.1 + 1 ∧ s.1 + 1 ≤ n ∧ s.1 + 1 ≤ s.1 + 1
    omega
theorem redN_rank {F : FOps} {n : Nat} {A : Nat → Nat → Nat} : ∀ k, (redN F n A k).1 ≤ n ∧ (redN F n A k).1 ≤ k
  | 0 => ⟨Nat.zero_le _, Nat.le_refl _⟩
  | k + 1 => by
    have h := redN_rank (F := F) (n := n) (A := A) k
    have := redS_rank (F := F) (q := k) h.1
    exact ⟨this.2.1, by unfold redN; omega⟩
theorem swN_lt {A : Nat → Nat → Nat} {M : Nat} (h : ∀ i j, A i j < M) (r i x j : Nat) : swN A r i x j < M := by
  unfold swN; split
  · exact h _ _
  · split <;> exact h _ _
theorem scN_lt {F : FOps} {A : Nat → Nat → Nat} {M b : Nat} (hm : ∀ a b, a < M → b < M → F.mul a b < M) (h : ∀ i j, A i j < M) (hb : b < M) (r x j : Nat) : scN F A r b x j < M := by
  unfold scN; split
  · exact hm _ _ (h _ _) hb
  · exact h _ _
theorem scT_zero {F : FOps} {A : Nat → Nat → Nat} {r b x j : Nat} : scT F A r b 0 x j = A x j := if_neg (by omega)
theorem scT_at {F : FOps} {A : Nat → Nat → Nat} {r b t : Nat} : scT F A r b t r t = A r t := if_neg (by omega)
theorem scT_full {F : FOps} {A : Nat → Nat → Nat} {r b c x j : Nat} (hj : j < c) : scT F A r b c x j = scN F A r b x j := by
  unfold scT scN
  by_cases e : x = r
  · rw [if_pos ⟨e, hj⟩, if_pos e]
  · rw [if_neg (fun h => e h.1), if_neg e]
theorem scT_next {F : FOps} {A : Nat → Nat → Nat} {r b t x j : Nat} : (if x = r ∧ j = t then F.mul (A r t) b else scT F A r b t x j) = scT F A r b (t + 1) x j := by
  unfold scT
  by_cases e : x = r ∧ j = t
  · obtain ⟨rfl, rfl⟩ := e
    rw [if_pos ⟨rfl, rfl⟩, if_pos ⟨rfl, by omega⟩]
  · rw [if_neg e]
    by_cases e2 : x = r ∧ j < t
    · rw [if_pos e2, if_pos ⟨e2.1, by omega⟩]
    · rw [if_neg e2, if_neg (by omega)]
def idN (F : FOps) (i j : Nat) : Nat := if i = j then F.one else F.zero
def mulN (F : FOps) (c : Nat) (A B : Nat → Nat → Nat) (i j : Nat) : Nat := dotN F (A i) (fun k => B k j) c
def besN (A C : Nat → Nat → Nat) (c i j : Nat) : Nat := if j < c then A i j else C i (j - c)
end Go.Proofs.Ytkibophcodhcbaa
