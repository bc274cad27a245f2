/- The numbers modulo a prime: the laws of a field. No program. -/
import Derived.Test.YtkibophcodhcbaaSim
namespace Go.Proofs.Ytkibophcodhcbaa

/-- what the trial division of the program tells -/
def PrimeN (p : Nat) : Prop := 2 ≤ p ∧ ∀ d, 2 ≤ d → d * d ≤ p → p % d ≠ 0
theorem PrimeN.coprime {p x : Nat} (h : PrimeN p) (h1 : 0 < x) (h2 : x < p) : Nat.gcd p x = 1 := by
  obtain ⟨h3, h4⟩ := h
  obtain ⟨k, hk⟩ := Nat.gcd_dvd_left p x
  have hx := Nat.le_of_dvd h1 (Nat.gcd_dvd_right p x)
  have hg : 0 < Nat.gcd p x := Nat.gcd_pos_of_pos_right _ h1
  generalize Nat.gcd p x = g at *
  apply Classical.byContradiction
  intro hne
  have hg2 : 2 ≤ g := by omega
  have hk2 : 2 ≤ k := by
    apply Nat.le_of_not_lt
    intro hlt
    have : g * k ≤ g * 1 := Nat.mul_le_mul_left g (by omega)
    omega
  by_cases hgk : g ≤ k
  · refine h4 g hg2 ?_ ?_
    · rw [hk]; exact Nat.mul_le_mul_left g hgk
    · rw [hk]; exact Nat.mul_mod_right g k
  · refine h4 k hk2 ?_ ?_
    · rw [hk]; exact Nat.mul_le_mul_right k (by omega)
    · rw [hk]; exact Nat.mul_mod_left g k
theorem PrimeN.cancel {p a x y : Nat} (h : PrimeN p) (ha : Nat.gcd p a = 1) (hxy : x ≤ y) (he : (a * x) % p = (a * y) % p) : (y - x) % p = 0 := by
  have h1 : (a * y - a * x) % p = 0 := Nat.sub_mod_eq_zero_of_mod_eq he.symm
  rw [← Nat.mul_sub] at h1
  exact Nat.mod_eq_zero_of_dvd (Nat.Coprime.dvd_of_dvd_mul_left ha (Nat.dvd_of_mod_eq_zero h1))
def prN : List Nat → Nat
  | [] => 1
  | x :: l => x * prN l
theorem prN_perm {l m : List Nat} (h : l.Perm m) : prN l = prN m := by
  induction h with
  | nil => rfl
  | cons x _ ih => unfold prN; rw [ih]
  | swap x y l => show y * (x * prN l) = x * (y * prN l); rw [← Nat.mul_assoc, ← Nat.mul_assoc, Nat.mul_comm y x]
  | trans _ _ h1 h2 => rw [h1, h2]
theorem prN_same : ∀ (l m : List Nat), l.Nodup → m.Nodup → (∀ x, x ∈ l → x ∈ m) → m.length ≤ l.length → prN l = prN m
  | [], m, _, _, _, h => by
    have : m = [] := List.eq_nil_of_length_eq_zero (by simpa using h)
    rw [this]
  | x :: l, m, hl, hm, hs, h => by
    have hx := hs x (List.mem_cons_self ..)
    have hp := List.perm_cons_erase hx
    rw [prN_perm hp]
    unfold prN
    have hl' := List.nodup_cons.1 hl
    rw [prN_same l (m.erase x) hl'.2 (hm.erase x) (fun y hy => (List.mem_erase_of_ne (fun e : y = x => hl'.1 (e ▸ hy))).2 (hs y (List.mem_cons_of_mem _ hy))) (by
      have := hp.length_eq
      simp only [List.length_cons] at this h
      omega)]
def upN (n : Nat) : List Nat := (List.range n).map (· + 1)
theorem upN_mem {n x : Nat} : x ∈ upN n ↔ 0 < x ∧ x ≤ n := by
  unfold upN
  simp only [List.mem_map, List.mem_range]
  constructor
  · rintro ⟨a, h1, rfl⟩; omega
  · intro ⟨h1, h2⟩; exact ⟨x - 1, by omega, by omega⟩
theorem upN_nodup (n : Nat) : (upN n).Nodup := by
  unfold upN
  rw [List.nodup_iff_pairwise_ne, List.pairwise_map]
  exact List.Pairwise.imp (fun h => by omega) (List.nodup_iff_pairwise_ne.1 List.nodup_range)
theorem prN_map (p a : Nat) : ∀ l : List Nat, prN (l.map fun x => (a * x) % p) % p = (a ^ l.length * prN l) % p
  | [] => by simp [prN]
  | x :: l => by
    show ((a * x) % p * prN (l.map fun x => (a * x) % p)) % p = (a ^ (l.length + 1) * (x * prN l)) % p
    rw [Nat.mul_mod, prN_map p a l, Nat.mod_mod, ← Nat.mul_mod, Nat.pow_succ]
    congr 1
    rw [Nat.mul_assoc, Nat.mul_assoc, Nat.mul_left_comm x, Nat.mul_left_comm a]
theorem prN_coprime {p : Nat} (h : PrimeN p) : ∀ l : List Nat, (∀ x, x ∈ l → 0 < x ∧ x < p) → Nat.gcd p (prN l) = 1
  | [], _ => by simp [prN]
  | x :: l, hl => by
    have h1 := h.coprime (hl x (List.mem_cons_self ..)).1 (hl x (List.mem_cons_self ..)).2
    have h2 := prN_coprime h l fun y hy => hl y (List.mem_cons_of_mem _ hy)
    exact Nat.Coprime.mul_right h1 h2
theorem fermat {p a : Nat} (h : PrimeN p) (h1 : 0 < a) (h2 : a < p) : a ^ (p - 1) % p = 1 := by
  have hp := h.1
  have ha := h.coprime h1 h2
  have hnd : ((upN (p - 1)).map fun x => (a * x) % p).Nodup := by
    rw [List.nodup_iff_pairwise_ne, List.pairwise_map]
    refine List.Pairwise.imp_of_mem ?_ (upN_nodup (p - 1))
    intro x y hx hy hxy he
    have hx := upN_mem.1 hx
    have hy := upN_mem.1 hy
    rcases Nat.le_total x y with hle | hle
    · have := h.cancel ha hle he
      rw [Nat.mod_eq_of_lt (by omega)] at this
      omega
    · have := h.cancel ha hle he.symm
      rw [Nat.mod_eq_of_lt (by omega)] at this
      omega
  have e1 := prN_same _ (upN (p - 1)) hnd (upN_nodup _) (fun y hy => by
    obtain ⟨x, hx, rfl⟩ := List.mem_map.1 hy
    have hx := upN_mem.1 hx
    refine upN_mem.2 ⟨?_, ?_⟩
    · apply Nat.pos_of_ne_zero
      intro h0
      have := Nat.Coprime.dvd_of_dvd_mul_left ha (Nat.dvd_of_mod_eq_zero h0)
      have := Nat.le_of_dvd hx.1 this
      omega
    · have := Nat.mod_lt (a * x) (show 0 < p by omega)
      omega) (by simp)
  have e2 := prN_map p a (upN (p - 1))
  rw [e1, show (upN (p - 1)).length = p - 1 by simp [upN]] at e2
  have hc := prN_coprime h (upN (p - 1)) fun x hx => by
    have := upN_mem.1 hx
    omega
  have hpos : 0 < a ^ (p - 1) := Nat.pow_pos h1
  have e3 := h.cancel (a := prN (upN (p - 1))) (x := 1) (y := a ^ (p - 1)) hc hpos (by rw [Nat.mul_one, Nat.mul_comm]; exact e2)
  obtain ⟨k, hk⟩ := Nat.dvd_of_mod_eq_zero e3
  have : a ^ (p - 1) = 1 + p * k := by omega
  rw [this, Nat.add_mul_mod_self_left]
  exact Nat.mod_eq_of_lt hp
theorem mdP_pow (p : Nat) (hp : 0 < p) : ∀ f n a o, n < 2 ^ f → o < p → mdP p f n a o = (o * a ^ n) % p
  | 0, n, a, o, h, ho => by
    obtain rfl : n = 0 := by simpa using h
    unfold mdP; rw [Nat.pow_zero, Nat.mul_one, Nat.mod_eq_of_lt ho]
  | f + 1, n, a, o, h, ho => by
    unfold mdP
    by_cases h0 : n = 0
    · subst h0; rw [if_pos rfl, Nat.pow_zero, Nat.mul_one, Nat.mod_eq_of_lt ho]
    · rw [if_neg h0]
      have hm : ∀ x y, mdM p x y = (x * y) % p := fun x y => by unfold mdM mdT; rw [← Nat.mul_mod]
      have hp2 : 2 ^ (f + 1) = 2 ^ f * 2 := Nat.pow_succ 2 f
      rw [mdP_pow p hp f _ _ _ (by omega) (by
        split
        · rw [hm]; exact Nat.mod_lt _ hp
        · exact ho)]
      rw [hm a a]
      have e : ((a * a) % p) ^ (n / 2) % p = (a ^ (2 * (n / 2))) % p := by rw [← Nat.pow_mod, ← Nat.pow_two, ← Nat.pow_mul]
      by_cases h1 : n % 2 = 1
      · rw [if_pos h1, hm, Nat.mul_mod, e, Nat.mod_mod, ← Nat.mul_mod, Nat.mul_assoc, ← Nat.pow_succ']
        congr 3
        omega
      · rw [if_neg h1, Nat.mul_mod, e, ← Nat.mul_mod]
        congr 3
        omega
theorem mdLaw {p : Nat} (h : PrimeN p) (hp : p ≤ 2147483648) : FLaw (mdOps p) p where
  zr := by have := h.1; show 0 < p; omega
  on := Nat.mod_lt _ (by have := h.1; omega)
  ad a b _ _ := Nat.mod_lt _ (by omega)
  sb a b _ _ := Nat.mod_lt _ (by omega)
  ml a b _ _ := Nat.mod_lt _ (by omega)
  iv a ha := by
    show mdI p a < p
    unfold mdI
    split
    · omega
    · exact Nat.mod_lt _ (by omega)
  adc a b _ _ := by show (a + b) % p = (b + a) % p; rw [Nat.add_comm]
  ada a b c _ _ _ := by
    show ((a + b) % p + c) % p = (a + (b + c) % p) % p
    rw [Nat.mod_add_mod, Nat.add_mod_mod, Nat.add_assoc]
  adz a ha := Nat.mod_eq_of_lt ha
  sba a b ha hb := by
    show ((a + p - b % p) % p + b) % p = a
    rw [Nat.mod_eq_of_lt hb, Nat.mod_add_mod, show a + p - b + b = a + p by omega, Nat.add_mod_right, Nat.mod_eq_of_lt ha]
  mlc a b _ _ := by show ((a % p) * (b % p)) % p = ((b % p) * (a % p)) % p; rw [Nat.mul_comm]
  mla a b c _ _ _ := by
    show ((((a % p) * (b % p)) % p % p) * (c % p)) % p = ((a % p) * ((((b % p) * (c % p)) % p) % p)) % p
    rw [← Nat.mul_mod, ← Nat.mul_mod, ← Nat.mul_mod, ← Nat.mul_mod, Nat.mod_mul_mod, Nat.mul_mod_mod, Nat.mul_assoc]
  mlo a ha := by
    show ((a % p) * ((1 % p) % p)) % p = a
    rw [Nat.mod_mod, ← Nat.mul_mod, Nat.mul_one, Nat.mod_eq_of_lt ha]
  mld a b c _ _ _ := by
    show ((a % p) * (((b + c) % p) % p)) % p = (((a % p) * (b % p)) % p + ((a % p) * (c % p)) % p) % p
    rw [← Nat.mul_mod, ← Nat.mul_mod, ← Nat.mul_mod, Nat.mul_mod_mod, Nat.mul_add, ← Nat.add_mod]
  ivm a ha hh := by
    have h0 : a % p ≠ 0 := by
      have : (a % p != 0) = true := hh
      simpa using this
    rw [Nat.mod_eq_of_lt ha] at h0
    show mdM p a (mdI p a) = 1 % p
    have hm : ∀ x y, mdM p x y = (x * y) % p := fun x y => by unfold mdM mdT; rw [← Nat.mul_mod]
    rw [hm]
    unfold mdI mdT
    rw [Nat.mod_eq_of_lt ha, if_neg h0, mdP_pow p (by omega) 64 _ _ _ (by omega) h.1, Nat.one_mul, Nat.mod_mod, Nat.mul_mod_mod, ← Nat.pow_succ', show (p - 2).succ = p - 1 by have := h.1; omega, fermat h (by omega) ha]
    rw [Nat.mod_eq_of_lt (show 1 < p from h.1)]
  hsz a ha hh := by
    have : (a % p != 0) = false := hh
    rw [Nat.mod_eq_of_lt ha] at this
    show a = 0
    simpa using this
  ne := by
    show 1 % p ≠ 0
    rw [Nat.mod_eq_of_lt (show 1 < p from h.1)]
    omega
end Go.Proofs.Ytkibophcodhcbaa
