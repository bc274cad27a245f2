/- Plain linear algebra over a field: sums, null spaces, what the elimination of the program leaves alone. No program. -/
import Derived.Test.YtkibophcodhcbaaFops
namespace Go.Proofs.Ytkibophcodhcbaa

class Fd (α : Type) where
  z : α
  o : α
  ad : α → α → α
  sb : α → α → α
  mu : α → α → α
  iv : α → α
  hs : α → Bool
  ad_c : ∀ a b, ad a b = ad b a
  ad_a : ∀ a b c, ad (ad a b) c = ad a (ad b c)
  ad_z : ∀ a, ad a z = a
  sb_ad : ∀ a b, ad (sb a b) b = a
  mu_c : ∀ a b, mu a b = mu b a
  mu_a : ∀ a b c, mu (mu a b) c = mu a (mu b c)
  mu_o : ∀ a, mu a o = a
  mu_ad : ∀ a b c, mu a (ad b c) = ad (mu a b) (mu a c)
  iv_mu : ∀ a, hs a = true → mu a (iv a) = o
  hs_z : ∀ a, hs a = false → a = z
  ne : o ≠ z
namespace Fd
variable {α : Type} [Fd α]
theorem cancel {a b c : α} (h : ad a c = ad b c) : a = b := by
  have e : ∀ x : α, ad (ad x c) (sb z c) = x := fun x => by
    rw [ad_a, ad_c c, sb_ad, ad_z]
  rw [← e a, h, e b]
theorem z_ad (a : α) : ad z a = a := by rw [ad_c, ad_z]
theorem o_mu (a : α) : mu o a = a := by rw [mu_c, mu_o]
theorem mu_z (a : α) : mu a z = z := by
  apply cancel (c := mu a z)
  rw [← mu_ad, z_ad, z_ad]
theorem z_mu (a : α) : mu z a = z := by rw [mu_c, mu_z]
theorem sb_self (a : α) : sb a a = z := cancel (c := a) (by rw [sb_ad, z_ad])
theorem sb_z (a : α) : sb a z = a := by have := sb_ad a z; rwa [ad_z] at this
theorem ad_mu (a b c : α) : mu (ad a b) c = ad (mu a c) (mu b c) := by rw [mu_c, mu_ad, mu_c c a, mu_c c b]
theorem sb_mu (a b c : α) : mu (sb a b) c = sb (mu a c) (mu b c) := cancel (c := mu b c) (by rw [sb_ad, ← ad_mu, sb_ad])
theorem mu_sb (a b c : α) : mu a (sb b c) = sb (mu a b) (mu a c) := by rw [mu_c, sb_mu, mu_c b, mu_c c]
def ng (a : α) : α := sb z a
theorem ng_ad (a : α) : ad (ng a) a = z := sb_ad z a
theorem ad_ng (a : α) : ad a (ng a) = z := by rw [ad_c, ng_ad]
theorem mu_ng (a b : α) : mu a (ng b) = ng (mu a b) := by unfold ng; rw [mu_sb, mu_z]
theorem of_ad_ng {a b : α} (h : ad a (ng b) = z) : a = b := cancel (c := ng b) (by rw [h, ad_ng])
theorem ad4 (a b c d : α) : ad (ad a b) (ad c d) = ad (ad a c) (ad b d) := by
  rw [ad_a, ad_a, ← ad_a b, ad_c b c, ad_a c]

/-- f 0 + .. + f (n - 1) -/
def sm (f : Nat → α) : Nat → α
  | 0 => z
  | n + 1 => ad (sm f n) (f n)
theorem sm_congr {f g : Nat → α} : ∀ n, (∀ k, k < n → f k = g k) → sm f n = sm g n
  | 0, _ => rfl
  | n + 1, h => by unfold sm; rw [sm_congr n fun k hk => h k (by omega), h n (by omega)]
theorem sm_z {f : Nat → α} : ∀ n, (∀ k, k < n → f k = z) → sm f n = z
  | 0, _ => rfl
  | n + 1, h => by unfold sm; rw [sm_z n fun k hk => h k (by omega), h n (by omega), ad_z]
theorem sm_one {f : Nat → α} {q : Nat} : ∀ n, q < n → (∀ k, k < n → k ≠ q → f k = z) → sm f n = f q
  | 0, h, _ => absurd h (by omega)
  | n + 1, h, hz => by
    unfold sm
    by_cases e : q = n
    · subst e; rw [sm_z q fun k hk => hz k (by omega) (by omega), z_ad]
    · rw [sm_one n (by omega) fun k hk => hz k (by omega), hz n (by omega) (fun h => e h.symm), ad_z]
theorem sm_ad (f g : Nat → α) : ∀ n, sm (fun k => ad (f k) (g k)) n = ad (sm f n) (sm g n)
  | 0 => (ad_z z).symm
  | n + 1 => by unfold sm; rw [sm_ad f g n, ad4]
theorem sm_sb (f g : Nat → α) (n : Nat) : sm (fun k => sb (f k) (g k)) n = sb (sm f n) (sm g n) := by
  apply cancel (c := sm g n)
  rw [sb_ad, ← sm_ad]
  exact sm_congr n fun k _ => sb_ad _ _
theorem sm_mu (a : α) (f : Nat → α) : ∀ n, sm (fun k => mu a (f k)) n = mu a (sm f n)
  | 0 => (mu_z a).symm
  | n + 1 => by unfold sm; rw [sm_mu a f n, mu_ad]
theorem sm_ng (f : Nat → α) (n : Nat) : sm (fun k => ng (f k)) n = ng (sm f n) := by
  unfold ng
  rw [sm_sb (fun _ => z) f n, sm_z n fun _ _ => rfl]
theorem sm_swap (f : Nat → Nat → α) (m : Nat) : ∀ n, sm (fun i => sm (f i) m) n = sm (fun j => sm (fun i => f i j) n) m
  | 0 => (sm_z m fun _ _ => rfl).symm
  | n + 1 => by
    show ad (sm (fun i => sm (f i) m) n) (sm (f n) m) = sm (fun j => ad (sm (fun i => f i j) n) (f n j)) m
    rw [sm_swap f m n, sm_ad]
theorem sm_split (f : Nat → α) (n : Nat) : ∀ m, sm f (n + m) = ad (sm f n) (sm (fun k => f (n + k)) m)
  | 0 => (ad_z _).symm
  | m + 1 => by
    show ad (sm f (n + m)) (f (n + m)) = _
    rw [sm_split f n m, ad_a]
    rfl

def idA (i j : Nat) : α := if i = j then o else z
def mulA (c : Nat) (A B : Nat → Nat → α) (i j : Nat) : α := sm (fun k => mu (A i k) (B k j)) c
theorem mulA_assoc (n : Nat) (A B C : Nat → Nat → α) (i j : Nat) : mulA n (mulA n A B) C i j = mulA n A (mulA n B C) i j := by
  unfold mulA
  rw [sm_congr (g := fun k => sm (fun l => mu (mu (A i l) (B l k)) (C k j)) n) n fun k _ => by rw [mu_c, ← sm_mu]; exact sm_congr n fun l _ => mu_c _ _]
  rw [sm_swap]
  refine sm_congr n fun l _ => ?_
  rw [← sm_mu]
  exact sm_congr n fun k _ => mu_a _ _ _
theorem mulA_congr {n : Nat} {A B A' B' : Nat → Nat → α} {i j : Nat} (h1 : ∀ k, k < n → A i k = A' i k) (h2 : ∀ k, k < n → B k j = B' k j) : mulA n A B i j = mulA n A' B' i j :=
  sm_congr n fun k hk => by rw [h1 k hk, h2 k hk]
theorem mulA_id {n : Nat} (A : Nat → Nat → α) {i j : Nat} (hj : j < n) : mulA n A idA i j = A i j := by
  unfold mulA
  rw [sm_one (q := j) n hj fun k _ hk => by unfold idA; rw [if_neg hk, mu_z]]
  unfold idA; rw [if_pos rfl, mu_o]
theorem id_mulA {n : Nat} (A : Nat → Nat → α) {i j : Nat} (hi : i < n) : mulA n idA A i j = A i j := by
  unfold mulA
  rw [sm_one (q := i) n hi fun k _ hk => by unfold idA; rw [if_neg (fun e => hk e.symm), z_mu]]
  unfold idA; rw [if_pos rfl, o_mu]

/-- row i of M times v -/
def rw1 (M : Nat → Nat → α) (c : Nat) (v : Nat → α) (i : Nat) : α := sm (fun k => mu (M i k) (v k)) c
def NV (M : Nat → Nat → α) (n c : Nat) (v : Nat → α) : Prop := ∀ i, i < n → rw1 M c v i = z
def swA (A : Nat → Nat → α) (r i x j : Nat) : α := if x = r then A i j else if x = i then A r j else A x j
def scA (A : Nat → Nat → α) (r : Nat) (b : α) (x j : Nat) : α := if x = r then mu (A x j) b else A x j
def clA (A : Nat → Nat → α) (own q i j : Nat) : α := if i = own then A i j else sb (A i j) (mu (A i q) (A own j))
theorem NV_sw {M : Nat → Nat → α} {n c r i : Nat} {v : Nat → α} (hr : r < n) (hi : i < n) : NV (swA M r i) n c v ↔ NV M n c v := by
  have e : ∀ x, rw1 (swA M r i) c v x = rw1 M c v (if x = r then i else if x = i then r else x) := fun x => by
    unfold rw1 swA
    by_cases e1 : x = r
    · simp only [if_pos e1]
    · by_cases e2 : x = i
      · simp only [if_neg e1, if_pos e2]
      · simp only [if_neg e1, if_neg e2]
  constructor
  · intro h x hx
    by_cases e1 : x = r
    · have := h i hi
      rw [e] at this
      by_cases e2 : i = r
      · rw [if_pos e2, e2] at this; rw [e1]; exact this
      · rw [if_neg e2, if_pos rfl] at this; rw [e1]; exact this
    · by_cases e2 : x = i
      · have := h r hr
        rw [e, if_pos rfl] at this
        rw [e2]; exact this
      · have := h x hx
        rw [e, if_neg e1, if_neg e2] at this
        exact this
  · intro h x hx
    rw [e]
    apply h
    split
    · exact hi
    · split
      · exact hr
      · exact hx
theorem rw1_sc (M : Nat → Nat → α) (c : Nat) (v : Nat → α) (r : Nat) (b : α) (x : Nat) : rw1 (scA M r b) c v x = if x = r then mu b (rw1 M c v x) else rw1 M c v x := by
  unfold rw1 scA
  split
  · rw [← sm_mu]
    exact sm_congr c fun k _ => by rw [mu_c (M x k) b, mu_a]
  · rfl
theorem NV_sc {M : Nat → Nat → α} {n c r : Nat} {v : Nat → α} {a b : α} (hb : mu a b = o) : NV (scA M r b) n c v ↔ NV M n c v := by
  constructor
  · intro h x hx
    have := h x hx
    rw [rw1_sc] at this
    split at this
    · rw [← o_mu (rw1 M c v x), ← hb, mu_a, this, mu_z]
    · exact this
  · intro h x hx
    rw [rw1_sc, h x hx, mu_z]
    split <;> rfl
theorem rw1_cl (M : Nat → Nat → α) (c : Nat) (v : Nat → α) (own q x : Nat) : rw1 (clA M own q) c v x = if x = own then rw1 M c v x else sb (rw1 M c v x) (mu (M x q) (rw1 M c v own)) := by
  unfold rw1 clA
  split
  · rfl
  · rw [← sm_mu, ← sm_sb]
    exact sm_congr c fun k _ => by rw [sb_mu, mu_a]
theorem NV_cl {M : Nat → Nat → α} {n c own q : Nat} {v : Nat → α} (ho : own < n) : NV (clA M own q) n c v ↔ NV M n c v := by
  constructor
  · intro h x hx
    have h1 := h own ho
    rw [rw1_cl, if_pos rfl] at h1
    have := h x hx
    rw [rw1_cl] at this
    split at this
    · exact this
    · rw [h1, mu_z, sb_z] at this; exact this
  · intro h x hx
    rw [rw1_cl, h x hx, h own ho, mu_z, sb_z]
    split <;> rfl

def pvA (A : Nat → Nat → α) (q : Nat) : Nat → Nat → Option Nat
  | 0, _ => none
  | k + 1, i => if hs (A i q) then some i else pvA A q k (i + 1)
def rdS (n q : Nat) (s : Nat × (Nat → Nat → α)) : Nat × (Nat → Nat → α) :=
  match pvA s.2 q (n - s.1) s.1 with
  | none => s
  | some i => (s.1 + 1, clA (scA (swA s.2 s.1 i) s.1 (iv (s.2 i q))) s.1 q)
def rdA (n : Nat) (A : Nat → Nat → α) : Nat → Nat × (Nat → Nat → α)
  | 0 => (0, A)
  | k + 1 => rdS n k (rdA n A k)
theorem pvA_none {A : Nat → Nat → α} {q : Nat} : ∀ k i, pvA A q k i = none → ∀ x, i ≤ x → x < i + k → A x q = z
  | 0, _, _, x, h1, h2 => absurd h1 (by omega)
  | k + 1, i, h, x, h1, h2 => by
    unfold pvA at h
    split at h
    · cases h
    · rename_i hn
      by_cases e : x = i
      · subst e; exact hs_z _ (by simpa using hn)
      · exact pvA_none k (i + 1) h x (by omega) (by omega)
theorem pvA_some {A : Nat → Nat → α} {q y : Nat} : ∀ k i, pvA A q k i = some y → i ≤ y ∧ y < i + k ∧ hs (A y q) = true
  | 0, _, h => by cases h
  | k + 1, i, h => by
    unfold pvA at h
    split at h
    · injection h with h; subst h; exact ⟨by omega, by omega, by assumption⟩
    · have := pvA_some k (i + 1) h; exact ⟨by omega, by omega, this.2.2⟩
def krV (M : Nat → Nat → α) (r j : Nat) : α := if j < r then ng (M j r) else if j = r then o else z
theorem krV_lt {M : Nat → Nat → α} {r j : Nat} (h : j < r) : krV M r j = ng (M j r) := if_pos h
theorem krV_eq {M : Nat → Nat → α} {r : Nat} : krV M r r = o := by unfold krV; rw [if_neg (by omega), if_pos rfl]
theorem krV_gt {M : Nat → Nat → α} {r j : Nat} (h : r < j) : krV M r j = z := by unfold krV; rw [if_neg (by omega), if_neg (by omega)]
theorem idA_eq {i : Nat} : (idA i i : α) = o := if_pos rfl
theorem idA_ne {i j : Nat} (h : i ≠ j) : (idA i j : α) = z := if_neg h
theorem rdA_inv (n c : Nat) (A : Nat → Nat → α) : ∀ k, k ≤ n → k ≤ c → (∀ v, NV (rdA n A k).2 n c v ↔ NV A n c v) ∧
    (((rdA n A k).1 = k ∧ ∀ i j, i < n → j < k → (rdA n A k).2 i j = idA i j) ∨ ((rdA n A k).1 < k ∧ ∃ v : Nat → α, (∃ q, q < k ∧ v q = o) ∧ (∀ j, k ≤ j → v j = z) ∧ NV A n c v))
  | 0, _, _ => ⟨fun _ => Iff.rfl, Or.inl ⟨rfl, fun _ _ _ h => absurd h (by omega)⟩⟩
  | k + 1, hk, hc => by
    obtain ⟨h1, h2⟩ := rdA_inv n c A k (by omega) (by omega)
    generalize hs' : rdA n A k = s at h1 h2
    have hr : rdA n A (k + 1) = rdS n k s := by rw [← hs']; rfl
    rw [hr]
    obtain ⟨r, M⟩ := s
    dsimp only at h1 h2
    unfold rdS
    cases hp : pvA M k (n - r) r with
    | none =>
      dsimp only
      refine ⟨h1, Or.inr ?_⟩
      rcases h2 with ⟨rfl, hid⟩ | ⟨hlt, v, ⟨q, hq, ho⟩, hz, hv⟩
      · refine ⟨by omega, krV M r, ⟨r, by omega, krV_eq⟩, fun j hj => krV_gt (by omega), ?_⟩
        rw [← h1]
        intro i hi
        unfold rw1
        obtain ⟨d, rfl⟩ : ∃ d, c = (r + 1) + d := ⟨c - (r + 1), by omega⟩
        rw [sm_split, sm_z d fun t _ => by rw [krV_gt (by omega), mu_z], ad_z]
        show ad (sm (fun k => mu (M i k) (krV M r k)) r) (mu (M i r) (krV M r r)) = z
        rw [krV_eq, mu_o]
        by_cases hir : i < r
        · rw [sm_one (q := i) r hir fun t ht hne => by rw [hid i t hi ht, idA_ne (fun e => hne e.symm), z_mu]]
          rw [hid i i hi hir, krV_lt hir, idA_eq, o_mu, ng_ad]
        · rw [sm_z r fun t ht => by rw [hid i t hi ht, idA_ne (by omega), z_mu]]
          rw [pvA_none _ _ hp i (by omega) (by omega), ad_z]
      · exact ⟨by omega, v, ⟨q, by omega, ho⟩, fun j hj => hz j (by omega), hv⟩
    | some y =>
      obtain ⟨hy1, hy2, hy3⟩ := pvA_some _ _ hp
      dsimp only
      have hrn : r < n := by omega
      have hyn : y < n := by omega
      refine ⟨fun v => ?_, ?_⟩
      · rw [NV_cl hrn, NV_sc (iv_mu _ hy3), NV_sw hrn hyn]; exact h1 v
      · rcases h2 with ⟨rfl, hid⟩ | ⟨hlt, v, ⟨q, hq, ho⟩, hz, hv⟩
        · refine Or.inl ⟨rfl, fun i j hi hj => ?_⟩
          have key : ∀ x t, x < n → t < r → scA (swA M r y) r (iv (M y r)) x t = idA x t := fun x t hx ht => by
            unfold scA swA
            by_cases e1 : x = r
            · rw [if_pos e1, if_pos e1, hid y t hyn ht]; unfold idA; rw [if_neg (by omega), if_neg (by omega), z_mu]
            · rw [if_neg e1, if_neg e1]
              by_cases e2 : x = y
              · rw [if_pos e2, hid r t hrn ht]; unfold idA; rw [if_neg (by omega), if_neg (by omega)]
              · rw [if_neg e2, hid x t hx ht]
          have piv : scA (swA M r y) r (iv (M y r)) r r = o := by unfold scA swA; rw [if_pos rfl, if_pos rfl]; exact iv_mu _ hy3
          unfold clA
          by_cases hjr : j < r
          · by_cases e : i = r
            · rw [if_pos e, key i j hi hjr]
            · rw [if_neg e, key i j hi hjr, key r j hrn hjr]
              have : (idA r j : α) = z := by unfold idA; rw [if_neg (by omega)]
              rw [this, mu_z, sb_z]
          · obtain rfl : j = r := by omega
            by_cases e : i = j
            · rw [if_pos e, e, piv]; unfold idA; rw [if_pos rfl]
            · rw [if_neg e, piv, mu_o, sb_self]; unfold idA; rw [if_neg e]
        · exact Or.inr ⟨by omega, v, ⟨q, by omega, ho⟩, fun j hj => hz j (by omega), hv⟩

def bsA (A C : Nat → Nat → α) (c i j : Nat) : α := if j < c then A i j else C i (j - c)
theorem rw_bs {n i : Nat} (A : Nat → Nat → α) (v : Nat → α) (hi : i < n) : rw1 (bsA A idA n) (n + n) v i = ad (sm (fun k => mu (A i k) (v k)) n) (v (n + i)) := by
  unfold rw1
  rw [sm_split, sm_congr (g := fun k => mu (A i k) (v k)) n fun k hk => by unfold bsA; rw [if_pos hk]]
  rw [sm_one (f := fun k => mu (bsA A idA n i (n + k)) (v (n + k))) (q := i) n hi fun k _ hne => by
    unfold bsA; rw [if_neg (by omega), show n + k - n = k by omega, idA_ne (fun e => hne e.symm), z_mu]]
  unfold bsA; rw [if_neg (by omega), show n + i - n = i by omega, idA_eq, o_mu]
/-- the right half of what is left of A beside the identity -/
def rgA (n : Nat) (A : Nat → Nat → α) (i j : Nat) : α := (rdA n (bsA A idA n) n).2 i (n + j)
def rkA (n : Nat) (A : Nat → Nat → α) : Nat := (rdA n (bsA A idA n) n).1
theorem rk_le (n : Nat) (A : Nat → Nat → α) : rkA n A ≤ n := by
  rcases (rdA_inv n (n + n) (bsA A idA n) n (Nat.le_refl _) (by omega)).2 with h | h
  · exact Nat.le_of_eq h.1
  · exact Nat.le_of_lt h.1
theorem sing {n : Nat} {A : Nat → Nat → α} (h : rkA n A < n) : ∃ v : Nat → α, (∃ q, q < n ∧ v q = o) ∧ ∀ i, i < n → sm (fun k => mu (A i k) (v k)) n = z := by
  rcases (rdA_inv n (n + n) (bsA A idA n) n (Nat.le_refl _) (by omega)).2 with h' | ⟨_, v, hq, hz, hv⟩
  · unfold rkA at h; omega
  · refine ⟨v, hq, fun i hi => ?_⟩
    have := hv i hi
    rw [rw_bs A v hi, hz (n + i) (by omega), ad_z] at this
    exact this
theorem invs {n : Nat} {A : Nat → Nat → α} (h : rkA n A = n) : (∀ i j, i < n → j < n → mulA n (rgA n A) A i j = idA i j) ∧ (∀ i j, i < n → j < n → mulA n A (rgA n A) i j = idA i j) := by
  obtain ⟨h1, h2⟩ := rdA_inv n (n + n) (bsA A idA n) n (Nat.le_refl _) (by omega)
  rcases h2 with ⟨_, hid⟩ | ⟨hlt, _⟩
  · have hS : ∀ (v : Nat → α) i, i < n → rw1 (rdA n (bsA A idA n) n).2 (n + n) v i = ad (v i) (sm (fun k => mu (rgA n A i k) (v (n + k))) n) := fun v i hi => by
      unfold rw1
      rw [sm_split, sm_one (q := i) n hi fun k hk hne => by rw [hid i k hi hk, idA_ne (fun e => hne e.symm), z_mu]]
      rw [hid i i hi hi, idA_eq, o_mu]
      rfl
    constructor
    · intro i j hi hj
      have hv : NV (bsA A idA n) n (n + n) (fun k => if k < n then idA k j else ng (A (k - n) j)) := fun x hx => by
        rw [rw_bs A _ hx]
        rw [if_neg (by omega), show n + x - n = x by omega, sm_one (q := j) n hj fun k hk hne => by rw [if_pos hk, idA_ne hne, mu_z]]
        rw [if_pos hj, idA_eq, mu_o, ad_ng]
      have := (h1 _).2 hv i hi
      rw [hS _ i hi] at this
      rw [if_pos hi, sm_congr (g := fun k => ng (mu (rgA n A i k) (A k j))) n fun k hk => by rw [if_neg (by omega), show n + k - n = k by omega, mu_ng], sm_ng] at this
      exact (of_ad_ng this).symm
    · intro i j hi hj
      have hv : NV (rdA n (bsA A idA n) n).2 n (n + n) (fun k => if k < n then ng (rgA n A k j) else idA (k - n) j) := fun x hx => by
        rw [hS _ x hx]
        rw [if_pos hx, sm_one (q := j) n hj fun k hk hne => by rw [if_neg (by omega), show n + k - n = k by omega, idA_ne hne, mu_z]]
        rw [if_neg (by omega), show n + j - n = j by omega, idA_eq, mu_o, ng_ad]
      have := (h1 _).1 hv i hi
      rw [rw_bs A _ hi] at this
      rw [if_neg (by omega), show n + i - n = i by omega, sm_congr (g := fun k => ng (mu (A i k) (rgA n A k j))) n fun k hk => by rw [if_pos hk, mu_ng], sm_ng, ad_c] at this
      exact (of_ad_ng this).symm
  · unfold rkA at h; omega
/-- no vector but nought goes to nought: then the rank is full -/
theorem full {n : Nat} {A : Nat → Nat → α} (h : ∀ v : Nat → α, (∀ i, i < n → sm (fun k => mu (A i k) (v k)) n = z) → ∀ q, q < n → v q = z) : rkA n A = n := by
  apply Nat.le_antisymm (rk_le n A)
  apply Nat.le_of_not_lt
  intro hlt
  obtain ⟨v, ⟨q, hq, ho⟩, hv⟩ := sing hlt
  exact ne (ho ▸ h v hv q hq)
/-- a left inverse makes the rank full -/
theorem full_of_left {n : Nat} {A X : Nat → Nat → α} (h : ∀ i j, i < n → j < n → mulA n X A i j = idA i j) : rkA n A = n := by
  apply full
  intro v hv q hq
  have e : mulA n (mulA n X A) (fun k _ => v k) q 0 = v q := by
    rw [mulA_congr (A' := idA) (B' := fun k _ => v k) (fun k hk => h q k hq hk) fun _ _ => rfl]
    exact id_mulA (fun k _ => v k) hq
  rw [← e, mulA_assoc]
  exact sm_z n fun k hk => by rw [show mulA n A (fun k _ => v k) k 0 = z from hv k hk, mu_z]
theorem rk_mul (n : Nat) (A B : Nat → Nat → α) : rkA n (mulA n A B) = n ↔ rkA n A = n ∧ rkA n B = n := by
  constructor
  · intro h
    obtain ⟨h1, h2⟩ := invs h
    have hb : rkA n B = n := full_of_left (X := mulA n (rgA n (mulA n A B)) A) fun i j hi hj => by rw [mulA_assoc]; exact h1 i j hi hj
    refine ⟨?_, hb⟩
    obtain ⟨b1, b2⟩ := invs hb
    -- A (B X) = I; with Y = B X: Y A = I, since B X A B = B I = B and B may be taken off
    refine full_of_left (X := mulA n B (rgA n (mulA n A B))) fun i j hi hj => ?_
    have e1 : ∀ i j, i < n → j < n → mulA n (mulA n B (rgA n (mulA n A B))) (mulA n A B) i j = B i j := fun i j hi hj => by
      rw [mulA_assoc, mulA_congr (A' := B) (B' := idA) (fun _ _ => rfl) fun k hk => h1 k j hk hj]
      exact mulA_id B hj
    have e2 : mulA n (mulA n (mulA n B (rgA n (mulA n A B))) (mulA n A B)) (rgA n B) i j = idA i j := by
      rw [mulA_congr (A' := B) (B' := rgA n B) (fun k hk => e1 i k hi hk) fun _ _ => rfl]
      exact b2 i j hi hj
    rw [mulA_assoc] at e2
    rw [← e2]
    refine mulA_congr (fun _ _ => rfl) fun k hk => ?_
    rw [mulA_assoc, mulA_congr (A' := A) (B' := idA) (fun _ _ => rfl) fun l hl => b2 l j hl hj]
    exact (mulA_id A hj).symm
  · intro ⟨ha, hb⟩
    obtain ⟨a1, _⟩ := invs ha
    obtain ⟨b1, _⟩ := invs hb
    refine full_of_left (X := mulA n (rgA n B) (rgA n A)) fun i j hi hj => ?_
    rw [mulA_assoc, mulA_congr (A' := rgA n B) (B' := B) (fun _ _ => rfl) fun k hk => by
      rw [← mulA_assoc, mulA_congr (A' := idA) (B' := B) (fun l hl => a1 k l hk hl) fun _ _ => rfl]
      exact id_mulA B hk]
    exact b1 i j hi hj
theorem inv_mul {n : Nat} {A B : Nat → Nat → α} (ha : rkA n A = n) (hb : rkA n B = n) {i j : Nat} (hi : i < n) (hj : j < n) : mulA n (rgA n B) (rgA n A) i j = rgA n (mulA n A B) i j := by
  obtain ⟨h1, h2⟩ := invs ((rk_mul n A B).2 ⟨ha, hb⟩)
  obtain ⟨a1, _⟩ := invs ha
  obtain ⟨b1, _⟩ := invs hb
  have e1 : ∀ i j, i < n → j < n → mulA n (mulA n (rgA n B) (rgA n A)) (mulA n A B) i j = idA i j := fun i j hi hj => by
    rw [mulA_assoc, mulA_congr (A' := rgA n B) (B' := B) (fun _ _ => rfl) fun k hk => by
      rw [← mulA_assoc, mulA_congr (A' := idA) (B' := B) (fun l hl => a1 k l hk hl) fun _ _ => rfl]
      exact id_mulA B hk]
    exact b1 i j hi hj
  have e2 : mulA n (mulA n (mulA n (rgA n B) (rgA n A)) (mulA n A B)) (rgA n (mulA n A B)) i j = mulA n (rgA n B) (rgA n A) i j := by
    rw [mulA_assoc, mulA_congr (A' := mulA n (rgA n B) (rgA n A)) (B' := idA) (fun _ _ => rfl) fun k hk => h2 k j hk hj]
    exact mulA_id _ hj
  rw [← e2, mulA_congr (A' := idA) (B' := rgA n (mulA n A B)) (fun k hk => e1 i k hi hk) fun _ _ => rfl]
  exact id_mulA _ hi
end Fd
end Go.Proofs.Ytkibophcodhcbaa
