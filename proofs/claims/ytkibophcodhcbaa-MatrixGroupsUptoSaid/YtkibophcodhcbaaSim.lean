/- The program's reckoning with numbers, as the algebra of a field. No program. -/
import Derived.Test.YtkibophcodhcbaaAlg
namespace Go.Proofs.Ytkibophcodhcbaa

structure FLaw (F : FOps) (q : Nat) : Prop where
  zr : F.zero < q
  on : F.one < q
  ad : ∀ a b, a < q → b < q → F.add a b < q
  sb : ∀ a b, a < q → b < q → F.sub a b < q
  ml : ∀ a b, a < q → b < q → F.mul a b < q
  iv : ∀ a, a < q → F.inv a < q
  adc : ∀ a b, a < q → b < q → F.add a b = F.add b a
  ada : ∀ a b c, a < q → b < q → c < q → F.add (F.add a b) c = F.add a (F.add b c)
  adz : ∀ a, a < q → F.add a F.zero = a
  sba : ∀ a b, a < q → b < q → F.add (F.sub a b) b = a
  mlc : ∀ a b, a < q → b < q → F.mul a b = F.mul b a
  mla : ∀ a b c, a < q → b < q → c < q → F.mul (F.mul a b) c = F.mul a (F.mul b c)
  mlo : ∀ a, a < q → F.mul a F.one = a
  mld : ∀ a b c, a < q → b < q → c < q → F.mul a (F.add b c) = F.add (F.mul a b) (F.mul a c)
  ivm : ∀ a, a < q → F.has a = true → F.mul a (F.inv a) = F.one
  hsz : ∀ a, a < q → F.has a = false → a = F.zero
  ne : F.one ≠ F.zero

def El (F : FOps) (q : Nat) (_ : FLaw F q) : Type := (a : Nat) ×' (a < q)
section
variable {F : FOps} {q : Nat} {H : FLaw F q}
theorem El.ext {a b : El F q H} (h : a.1 = b.1) : a = b := by
  obtain ⟨a, ha⟩ := a
  obtain ⟨b, hb⟩ := b
  dsimp only at h
  subst h
  rfl
instance : Fd (El F q H) where
  z := ⟨F.zero, H.zr⟩
  o := ⟨F.one, H.on⟩
  ad a b := ⟨F.add a.1 b.1, H.ad _ _ a.2 b.2⟩
  sb a b := ⟨F.sub a.1 b.1, H.sb _ _ a.2 b.2⟩
  mu a b := ⟨F.mul a.1 b.1, H.ml _ _ a.2 b.2⟩
  iv a := ⟨F.inv a.1, H.iv _ a.2⟩
  hs a := F.has a.1
  ad_c a b := El.ext (H.adc _ _ a.2 b.2)
  ad_a a b c := El.ext (H.ada _ _ _ a.2 b.2 c.2)
  ad_z a := El.ext (H.adz _ a.2)
  sb_ad a b := El.ext (H.sba _ _ a.2 b.2)
  mu_c a b := El.ext (H.mlc _ _ a.2 b.2)
  mu_a a b c := El.ext (H.mla _ _ _ a.2 b.2 c.2)
  mu_o a := El.ext (H.mlo _ a.2)
  mu_ad a b c := El.ext (H.mld _ _ _ a.2 b.2 c.2)
  iv_mu a h := El.ext (H.ivm _ a.2 h)
  hs_z a h := El.ext (H.hsz _ a.2 h)
  ne h := H.ne (congrArg PSigma.fst h)
/-- the numbers of a matrix of elements -/
def Vl (A : Nat → Nat → El F q H) (i j : Nat) : Nat := (A i j).1
theorem dot_sim (a b : Nat → El F q H) : ∀ n, dotN F (fun k => (a k).1) (fun k => (b k).1) n = (Fd.sm (fun k => Fd.mu (a k) (b k)) n).1
  | 0 => rfl
  | n + 1 => by unfold dotN; rw [dot_sim a b n]; rfl
theorem mul_sim (n : Nat) (A B : Nat → Nat → El F q H) : mulN F n (Vl A) (Vl B) = Vl (Fd.mulA n A B) := by
  funext i j
  exact dot_sim (A i) (fun k => B k j) n
theorem id_sim : idN F = Vl (Fd.idA : Nat → Nat → El F q H) := by
  funext i j
  unfold idN Vl Fd.idA
  split <;> rfl
theorem bes_sim (A C : Nat → Nat → El F q H) (c : Nat) : besN (Vl A) (Vl C) c = Vl (Fd.bsA A C c) := by
  funext i j
  unfold besN Vl Fd.bsA
  split <;> rfl
theorem sw_sim (A : Nat → Nat → El F q H) (r i : Nat) : swN (Vl A) r i = Vl (Fd.swA A r i) := by
  funext x j
  unfold swN Vl Fd.swA
  split
  · rfl
  · split <;> rfl
theorem sc_sim (A : Nat → Nat → El F q H) (r : Nat) (b : El F q H) : scN F (Vl A) r b.1 = Vl (Fd.scA A r b) := by
  funext x j
  unfold scN Vl Fd.scA
  split <;> rfl
theorem cl_sim (A : Nat → Nat → El F q H) (own t : Nat) : clN F (Vl A) own t = Vl (Fd.clA A own t) := by
  funext x j
  unfold clN Vl Fd.clA
  split <;> rfl
theorem pv_sim (A : Nat → Nat → El F q H) (t : Nat) : ∀ k i, pvt F (Vl A) t k i = Fd.pvA A t k i
  | 0, _ => rfl
  | k + 1, i => by
    unfold pvt Fd.pvA
    rw [pv_sim A t k (i + 1)]
    rfl
theorem redS_sim (n t : Nat) (s : Nat × (Nat → Nat → El F q H)) : redS F n t (s.1, Vl s.2) = ((Fd.rdS n t s).1, Vl (Fd.rdS n t s).2) := by
  obtain ⟨r, M⟩ := s
  unfold redS Fd.rdS
  dsimp only
  rw [pv_sim]
  cases Fd.pvA M t (n - r) r with
  | none => rfl
  | some i =>
    dsimp only
    rw [sw_sim, show F.inv (Vl M i t) = (Fd.iv (M i t) : El F q H).1 from rfl, sc_sim, cl_sim]
theorem redN_sim (n : Nat) (A : Nat → Nat → El F q H) : ∀ k, redN F n (Vl A) k = ((Fd.rdA n A k).1, Vl (Fd.rdA n A k).2)
  | 0 => rfl
  | k + 1 => by
    show redS F n k (redN F n (Vl A) k) = _
    rw [redN_sim n A k, redS_sim]
    rfl
end

/-- rank and right half, of numbers -/
def rkN (F : FOps) (n : Nat) (A : Nat → Nat → Nat) : Nat := (redN F n (besN A (idN F) n) n).1
def rgN (F : FOps) (n : Nat) (A : Nat → Nat → Nat) (i j : Nat) : Nat := (redN F n (besN A (idN F) n) n).2 i (n + j)
theorem rk_sim {F : FOps} {q : Nat} {H : FLaw F q} (n : Nat) (A : Nat → Nat → El F q H) : rkN F n (Vl A) = Fd.rkA n A := by
  unfold rkN Fd.rkA
  rw [id_sim (H := H), bes_sim, redN_sim]
theorem rg_sim {F : FOps} {q : Nat} {H : FLaw F q} (n : Nat) (A : Nat → Nat → El F q H) : rgN F n (Vl A) = Vl (Fd.rgA n A) := by
  funext i j
  unfold rgN Fd.rgA
  rw [id_sim (H := H), bes_sim, redN_sim]
  rfl
theorem lift {F : FOps} {q : Nat} (H : FLaw F q) {A : Nat → Nat → Nat} (h : ∀ i j, A i j < q) : ∃ B : Nat → Nat → El F q H, A = Vl B := ⟨fun i j => ⟨A i j, h i j⟩, rfl⟩
theorem Vl_lt {F : FOps} {q : Nat} {H : FLaw F q} (A : Nat → Nat → El F q H) (i j : Nat) : Vl A i j < q := (A i j).2

section
variable {F : FOps} {q n : Nat} {A B C : Nat → Nat → Nat}
theorem mulN_lt (H : FLaw F q) (h : ∀ i j, A i j < q) (h2 : ∀ i j, B i j < q) : ∀ i j, mulN F n A B i j < q := by
  obtain ⟨a, rfl⟩ := lift H h
  obtain ⟨b, rfl⟩ := lift H h2
  rw [mul_sim]
  exact Vl_lt _
theorem idN_lt (H : FLaw F q) : ∀ i j, idN F i j < q := by
  rw [id_sim (H := H)]
  exact Vl_lt _
theorem rgN_lt (H : FLaw F q) (h : ∀ i j, A i j < q) : ∀ i j, rgN F n A i j < q := by
  obtain ⟨a, rfl⟩ := lift H h
  rw [rg_sim]
  exact Vl_lt _
theorem lawAssoc (H : FLaw F q) (h : ∀ i j, A i j < q) (h2 : ∀ i j, B i j < q) (h3 : ∀ i j, C i j < q) : eqM (mulN F n (mulN F n A B) C) (mulN F n A (mulN F n B C)) n n n = true := by
  obtain ⟨a, rfl⟩ := lift H h
  obtain ⟨b, rfl⟩ := lift H h2
  obtain ⟨c, rfl⟩ := lift H h3
  rw [mul_sim, mul_sim, mul_sim, mul_sim, eqM_iff]
  intro i _ j _
  exact congrArg PSigma.fst (Fd.mulA_assoc n a b c i j)
theorem lawRight (H : FLaw F q) (h : ∀ i j, A i j < q) : eqM (mulN F n A (idN F)) A n n n = true := by
  obtain ⟨a, rfl⟩ := lift H h
  rw [id_sim (H := H), mul_sim, eqM_iff]
  intro i _ j hj
  exact congrArg PSigma.fst (Fd.mulA_id a hj)
theorem lawLeft (H : FLaw F q) (h : ∀ i j, A i j < q) : eqM (mulN F n (idN F) A) A n n n = true := by
  obtain ⟨a, rfl⟩ := lift H h
  rw [id_sim (H := H), mul_sim, eqM_iff]
  intro i hi j _
  exact congrArg PSigma.fst (Fd.id_mulA a hi)
theorem lawRank (H : FLaw F q) (h : ∀ i j, A i j < q) (h2 : ∀ i j, B i j < q) : rkN F n (mulN F n A B) < n ↔ (rkN F n A < n ∨ rkN F n B < n) := by
  obtain ⟨a, rfl⟩ := lift H h
  obtain ⟨b, rfl⟩ := lift H h2
  rw [mul_sim, rk_sim, rk_sim, rk_sim]
  have h1 := Fd.rk_mul n a b
  have l1 := Fd.rk_le n a
  have l2 := Fd.rk_le n b
  have l3 := Fd.rk_le n (Fd.mulA n a b)
  constructor
  · intro h
    apply Classical.byContradiction
    intro hn
    have := h1.2 ⟨by omega, by omega⟩
    omega
  · intro h
    apply Nat.lt_of_le_of_ne l3
    intro e
    have := h1.1 e
    omega
theorem lawInv (H : FLaw F q) (h : ∀ i j, A i j < q) (h2 : ∀ i j, B i j < q) (h3 : ¬ rkN F n A < n) (h4 : ¬ rkN F n B < n) : eqM (mulN F n (rgN F n B) (rgN F n A)) (rgN F n (mulN F n A B)) n n n = true := by
  obtain ⟨a, rfl⟩ := lift H h
  obtain ⟨b, rfl⟩ := lift H h2
  rw [rk_sim] at h3 h4
  have l1 := Fd.rk_le n a
  have l2 := Fd.rk_le n b
  rw [mul_sim, rg_sim, rg_sim, rg_sim, mul_sim, eqM_iff]
  intro i hi j hj
  have ha : Fd.rkA n a = n := by omega
  have hb : Fd.rkA n b = n := by omega
  exact congrArg PSigma.fst (Fd.inv_mul ha hb hi hj)
end
end Go.Proofs.Ytkibophcodhcbaa
