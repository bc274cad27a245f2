/- Words for memory: rows that a call owns, matrices as rows of rows. -/
import Derived.Test.YtkibophcodhcbaaBase
import Derived.Maps.AppendAt
import Derived.Deep.AppendLies
import Derived.Laws.OwnMore
namespace Go.Proofs.Ytkibophcodhcbaa
open Go.RowKit

/-- the list of f 0 .. f (n - 1) -/
def Rg (n : Nat) (f : Nat → Value) : List Value := (List.range n).map f
theorem Rg_len (n : Nat) (f : Nat → Value) : (Rg n f).length = n := by simp [Rg]
theorem Rg_get {n : Nat} {f : Nat → Value} {j : Nat} (h : j < n) : (Rg n f)[j]? = some (f j) := by simp [Rg, h]
theorem Rg_succ (n : Nat) (f : Nat → Value) : Rg (n + 1) f = Rg n f ++ [f n] := by simp [Rg, List.range_succ]
theorem Rg_congr {n : Nat} {f g : Nat → Value} (h : ∀ i, i < n → f i = g i) : Rg n f = Rg n g := by
  unfold Rg; exact List.map_congr_left fun i hi => h i (by simpa using hi)
theorem Rg_set {n : Nat} {f : Nat → Value} {j : Nat} (v : Value) : (Rg n f).set j v = Rg n (fun k => if k = j then v else f k) := by
  apply List.ext_getElem?
  intro k
  by_cases hk : k < n
  · by_cases e : j = k
    · subst e; rw [List.getElem?_set_self (by simp [Rg]; exact hk), Rg_get hk, if_pos rfl]
    · rw [List.getElem?_set_ne e, Rg_get hk, Rg_get hk, if_neg (fun h => e h.symm)]
  · rw [List.getElem?_eq_none (by simp [Rg]; omega), List.getElem?_eq_none (by simp [Rg]; omega)]
theorem Rg_replicate (n : Nat) (v : Value) : List.replicate n v = Rg n (fun _ => v) := by
  apply List.ext_getElem?
  intro k
  by_cases hk : k < n
  · rw [Rg_get hk]; simp [hk]
  · rw [List.getElem?_eq_none (by simp; omega), List.getElem?_eq_none (by simp [Rg]; omega)]

theorem own_below {w w' : World} {base : Nat} {e : TypeId} {size : Nat} {v : Value} {n : Nat} {xs : List Value} (h : w.ownsRow base e size v n xs) (hb : Below w.heap.size w w') : w'.ownsRow base e size v n xs :=
  h.kept (row := none) ⟨hb.os, hb.tape, hb.output, hb.size, fun k hk _ => hb.block k hk⟩ (by cases v.ownBlock <;> simp)
theorem own_base {w : World} {base base' : Nat} {e : TypeId} {size : Nat} {v : Value} {n : Nat} {xs : List Value} (h : w.ownsRow base e size v n xs) (hb : base' ≤ base) : w.ownsRow base' e size v n xs :=
  ⟨h.1, h.2.imp id fun ⟨g, cap, cur, h1, h2, h3⟩ => ⟨g, cap, cur, h1, Nat.le_trans hb h2, h3⟩⟩
theorem own_drew {w : World} {base : Nat} {e : TypeId} {size : Nat} {v : Value} {n : Nat} {xs : List Value} (h : w.ownsRow base e size v n xs) : w.drew.ownsRow base e size v n xs := h
theorem own_set {w : World} {base : Nat} {e : TypeId} {size : Nat} {v : Value} {n : Nat} {xs : List Value} (h : w.ownsRow base e size v n xs) {p : Addr} (hp : v.ownBlock ≠ some p.block) (u : Value) : (w.setCell p u).ownsRow base e size v n xs := by
  refine ⟨h.1, h.2.imp id fun ⟨g, cap, cur, h1, h2, h3, h4⟩ => ⟨g, cap, cur, h1, h2, ?_, h4⟩⟩
  subst h1
  exact (Below.heap_setCell w p u g (fun e => hp (by rw [e]; rfl))).trans h3
theorem own_cell {w : World} {base : Nat} {e : TypeId} {g n cap : Nat} {f : Nat → Value} (h : w.ownsRow base e 1 (.slice (some ⟨g, 0, none⟩) n cap) n (Rg n f)) {j : Nat} (hj : j < n) : w.cell? ⟨g, j, none⟩ = some (f j) := by
  rw [h.cellAt j (by omega), Rg_get hj]
theorem own_lt {w : World} {base : Nat} {e : TypeId} {size : Nat} {g n cap : Nat} {xs : List Value} (h : w.ownsRow base e size (.slice (some ⟨g, 0, none⟩) n cap) n xs) : base ≤ g ∧ g < w.heap.size := h.lt g rfl
/-- two owned rows of unlike element types lie in unlike blocks -/
theorem own_ne {w : World} {b b' : Nat} {e e' : TypeId} {s s' : Nat} {g g' n n' cap cap' : Nat} {xs xs' : List Value} (h : w.ownsRow b e s (.slice (some ⟨g, 0, none⟩) n cap) n xs) (h' : w.ownsRow b' e' s' (.slice (some ⟨g', 0, none⟩) n' cap') n' xs') (hne : e ≠ e') : g ≠ g' := by
  rintro rfl
  rcases h.2 with ⟨h1, _⟩ | ⟨g1, c1, cur, h1, _, h2, _⟩
  · cases h1
  · rcases h'.2 with ⟨h1', _⟩ | ⟨g1', c1', cur', h1', _, h2', _⟩
    · cases h1'
    · injection h1 with h1; injection h1 with h1; injection h1 with h1
      injection h1' with h1'; injection h1' with h1'; injection h1' with h1'
      subst h1; subst h1'
      rw [h2] at h2'
      injection h2' with h2'; injection h2' with _ h2'
      exact hne h2'
theorem own_blk_ne {w : World} {b : Nat} {e t : TypeId} {s : Nat} {v : Value} {n g : Nat} {xs : List Value} {cs : Array Value} {fr : Nat × Nat} (h : w.ownsRow b e s v n xs) (h' : w.heap[g]? = some (.cells cs t fr)) (hne : e ≠ t) : v.ownBlock ≠ some g := by
  rcases h.2 with ⟨rfl, _⟩ | ⟨g1, c1, cur, rfl, _, h2, _⟩
  · simp [Value.ownBlock]
  · intro he
    have : g1 = g := by simpa [Value.ownBlock] using he
    subst this
    rw [h'] at h2
    injection h2 with h2; injection h2 with _ h2
    exact hne h2.symm

/-- rows of rows: the outer row lies at rb, row i at g i -/
structure RowsAt (w : World) (B : Nat) (eS eE : TypeId) (K : IntKind) (rb cap : Nat) (g cc : Nat → Nat) (n c : Nat) (A : Nat → Nat → Nat) : Prop where
  own : w.ownsRow B eS 1 (.slice (some ⟨rb, 0, none⟩) n cap) n (Rg n fun i => .slice (some ⟨g i, 0, none⟩) c (cc i))
  row : ∀ i, i < n → w.ownsRow B eE 1 (.slice (some ⟨g i, 0, none⟩) c (cc i)) c (Rg c fun j => .int K (A i j : Nat))
  inj : ∀ i k, i < n → k < n → g i = g k → i = k
section
variable {w w' : World} {B : Nat} {eS eE : TypeId} {K : IntKind} {rb cap : Nat} {g cc : Nat → Nat} {n c : Nat} {A : Nat → Nat → Nat}
theorem RowsAt.below (h : RowsAt w B eS eE K rb cap g cc n c A) (hb : Below w.heap.size w w') : RowsAt w' B eS eE K rb cap g cc n c A :=
  ⟨own_below h.own hb, fun i hi => own_below (h.row i hi) hb, h.inj⟩
theorem RowsAt.base {B' : Nat} (h : RowsAt w B eS eE K rb cap g cc n c A) (hb : B' ≤ B) : RowsAt w B' eS eE K rb cap g cc n c A :=
  ⟨own_base h.own hb, fun i hi => own_base (h.row i hi) hb, h.inj⟩
theorem RowsAt.drew (h : RowsAt w B eS eE K rb cap g cc n c A) : RowsAt w.drew B eS eE K rb cap g cc n c A := ⟨h.own, h.row, h.inj⟩
theorem RowsAt.c1 (h : RowsAt w B eS eE K rb cap g cc n c A) {i : Nat} (hi : i < n) : w.cell? ⟨rb, i, none⟩ = some (.slice (some ⟨g i, 0, none⟩) c (cc i)) := own_cell h.own hi
theorem RowsAt.c2 (h : RowsAt w B eS eE K rb cap g cc n c A) {i j : Nat} (hi : i < n) (hj : j < c) : w.cell? ⟨g i, j, none⟩ = some (.int K (A i j : Nat)) := own_cell (h.row i hi) hj
theorem RowsAt.lt (h : RowsAt w B eS eE K rb cap g cc n c A) : rb < w.heap.size := (own_lt h.own).2
theorem RowsAt.ltg (h : RowsAt w B eS eE K rb cap g cc n c A) {i : Nat} (hi : i < n) : g i < w.heap.size := (own_lt (h.row i hi)).2
theorem RowsAt.ge (h : RowsAt w B eS eE K rb cap g cc n c A) : B ≤ rb := (own_lt h.own).1
theorem RowsAt.geg (h : RowsAt w B eS eE K rb cap g cc n c A) {i : Nat} (hi : i < n) : B ≤ g i := (own_lt (h.row i hi)).1
theorem RowsAt.congr {A' : Nat → Nat → Nat} (h : RowsAt w B eS eE K rb cap g cc n c A) (he : ∀ i j, i < n → j < c → A i j = A' i j) : RowsAt w B eS eE K rb cap g cc n c A' :=
  ⟨h.own, fun i hi => by
    have := h.row i hi
    rw [Rg_congr (g := fun j => .int K (A' i j : Nat)) (fun j hj => by rw [he i j hi hj])] at this
    exact this, h.inj⟩
/-- a store into one element -/
theorem RowsAt.set (h : RowsAt w B eS eE K rb cap g cc n c A) (hne : eS ≠ eE) {i j : Nat} (hi : i < n) (x : Nat) :
    RowsAt (w.setCell ⟨g i, j, none⟩ (.int K (x : Nat))) B eS eE K rb cap g cc n c (fun r k => if r = i ∧ k = j then x else A r k) := by
  refine ⟨own_set h.own (by simp [Value.ownBlock]; exact own_ne h.own (h.row i hi) hne) _, fun r hr => ?_, h.inj⟩
  by_cases e : r = i
  · subst e
    have := ((h.row r hr).stored j (.int K (x : Nat))).1
    rw [Rg_set] at this
    rw [Rg_congr (g := fun k => if k = j then (.int K (x : Nat)) else .int K (A r k : Nat))]
    · exact this
    · intro k _
      by_cases e : k = j <;> simp [e]
  · have := own_set (h.row r hr) (p := ⟨g i, j, none⟩) (by simp [Value.ownBlock]; exact fun e' => e (h.inj r i hr hi e')) (.int K (x : Nat))
    rw [Rg_congr (g := fun k => .int K (A r k : Nat))]
    · exact this
    · intro k _
      rw [if_neg (fun h => e h.1)]
theorem RowsAt.snoc {v : Value} {G : Nat → Nat → Nat} {gr cr : Nat} (k : Nat)
    (hrow : ∀ i, i < k → w.ownsRow B eE 1 (.slice (some ⟨g i, 0, none⟩) c (cc i)) c (Rg c fun j => .int K (G i j : Nat))) (hnew : w.ownsRow B eE 1 (.slice (some ⟨gr, 0, none⟩) c cr) c (Rg c fun j => .int K (G k j : Nat)))
    (hinj : ∀ i l, i < k → l < k → g i = g l → i = l) (hne : ∀ i, i < k → g i ≠ gr) (hv : w.ownsRow B eS 1 v (k + 1) (Rg k (fun i => .slice (some ⟨g i, 0, none⟩) c (cc i)) ++ [.slice (some ⟨gr, 0, none⟩) c cr])) :
    ∃ g' cc' : Nat → Nat, w.ownsRow B eS 1 v (k + 1) (Rg (k + 1) fun i => .slice (some ⟨g' i, 0, none⟩) c (cc' i)) ∧
      (∀ i, i < k + 1 → w.ownsRow B eE 1 (.slice (some ⟨g' i, 0, none⟩) c (cc' i)) c (Rg c fun j => .int K (G i j : Nat))) ∧ (∀ i l, i < k + 1 → l < k + 1 → g' i = g' l → i = l) := by
  refine ⟨fun i => if i = k then gr else g i, fun i => if i = k then cr else cc i, ?_, ?_, ?_⟩
  · rw [Rg_succ]; dsimp only
    rw [if_pos rfl, if_pos rfl, Rg_congr (g := fun i => .slice (some ⟨g i, 0, none⟩) c (cc i)) (fun i hi => by rw [if_neg (by omega), if_neg (by omega)])]
    exact hv
  · intro i hi
    dsimp only
    by_cases e : i = k
    · subst e; rw [if_pos rfl, if_pos rfl]; exact hnew
    · rw [if_neg e, if_neg e]; exact hrow i (by omega)
  · intro i l hi hl h
    dsimp only at h
    by_cases e : i = k <;> by_cases e' : l = k
    · omega
    · rw [if_pos e, if_neg e'] at h; exact absurd h.symm (hne l (by omega))
    · rw [if_neg e, if_pos e'] at h; exact absurd h (hne i (by omega))
    · rw [if_neg e, if_neg e'] at h; exact hinj i l (by omega) (by omega) h
end

/-- a matrix behind a pointer -/
def MatAt (w : World) (eS eE : TypeId) (K : IntKind) (fv : Value) (m : Nat) (n c : Nat) (A : Nat → Nat → Nat) : Prop :=
  m < w.heap.size ∧ w.cell? ⟨m, 0, none⟩ = some fv ∧ ∃ rb cap g cc, w.cell? ⟨m, 1, none⟩ = some (.slice (some ⟨rb, 0, none⟩) n cap) ∧ RowsAt w 0 eS eE K rb cap g cc n c A
theorem MatAt.below {w w' : World} {eS eE : TypeId} {K : IntKind} {fv : Value} {m n c : Nat} {A : Nat → Nat → Nat} (h : MatAt w eS eE K fv m n c A) (hb : Below w.heap.size w w') : MatAt w' eS eE K fv m n c A := by
  obtain ⟨h1, h2, rb, cap, g, cc, h3, h4⟩ := h
  exact ⟨Nat.lt_of_lt_of_le h1 hb.size, (hb.cell (p := ⟨m, 0, none⟩) h1).trans h2, rb, cap, g, cc, (hb.cell (p := ⟨m, 1, none⟩) h1).trans h3, h4.below hb⟩
theorem MatAt.congr {w : World} {eS eE : TypeId} {K : IntKind} {fv : Value} {m n c : Nat} {A A' : Nat → Nat → Nat} (h : MatAt w eS eE K fv m n c A) (he : ∀ i j, i < n → j < c → A i j = A' i j) : MatAt w eS eE K fv m n c A' := by
  obtain ⟨h1, h2, rb, cap, g, cc, h3, h4⟩ := h
  exact ⟨h1, h2, rb, cap, g, cc, h3, h4.congr he⟩

/-- a matrix all of whose blocks lie at or above B -/
def MatB (B : Nat) (w : World) (eS eE : TypeId) (K : IntKind) (fv : Value) (m : Nat) (n c : Nat) (A : Nat → Nat → Nat) : Prop :=
  B ≤ m ∧ m < w.heap.size ∧ w.cell? ⟨m, 0, none⟩ = some fv ∧ ∃ rb cap g cc, w.cell? ⟨m, 1, none⟩ = some (.slice (some ⟨rb, 0, none⟩) n cap) ∧ RowsAt w B eS eE K rb cap g cc n c A
theorem MatB.mat {B : Nat} {w : World} {eS eE : TypeId} {K : IntKind} {fv : Value} {m n c : Nat} {A : Nat → Nat → Nat} (h : MatB B w eS eE K fv m n c A) : MatAt w eS eE K fv m n c A := by
  obtain ⟨_, h1, h2, rb, cap, g, cc, h3, h4⟩ := h
  exact ⟨h1, h2, rb, cap, g, cc, h3, h4.base (Nat.zero_le _)⟩
theorem MatB.below {B : Nat} {w w' : World} {eS eE : TypeId} {K : IntKind} {fv : Value} {m n c : Nat} {A : Nat → Nat → Nat} (h : MatB B w eS eE K fv m n c A) (hb : Below w.heap.size w w') : MatB B w' eS eE K fv m n c A := by
  obtain ⟨h0, h1, h2, rb, cap, g, cc, h3, h4⟩ := h
  exact ⟨h0, Nat.lt_of_lt_of_le h1 hb.size, (hb.cell (p := ⟨m, 0, none⟩) h1).trans h2, rb, cap, g, cc, (hb.cell (p := ⟨m, 1, none⟩) h1).trans h3, h4.below hb⟩
theorem MatB.base {B B' : Nat} {w : World} {eS eE : TypeId} {K : IntKind} {fv : Value} {m n c : Nat} {A : Nat → Nat → Nat} (h : MatB B w eS eE K fv m n c A) (hb : B' ≤ B) : MatB B' w eS eE K fv m n c A := by
  obtain ⟨h0, h1, h2, rb, cap, g, cc, h3, h4⟩ := h
  exact ⟨Nat.le_trans hb h0, h1, h2, rb, cap, g, cc, h3, h4.base hb⟩
theorem own_keep {w w' : World} {base : Nat} {e : TypeId} {size : Nat} {v : Value} {n : Nat} {xs : List Value} (h : w.ownsRow base e size v n xs) (hk : ∀ b, base ≤ b → w'.heap[b]? = w.heap[b]?) : w'.ownsRow base e size v n xs := by
  refine ⟨h.1, h.2.imp id fun ⟨g, cap, cur, h1, h2, h3, h4⟩ => ⟨g, cap, cur, h1, h2, ?_, h4⟩⟩
  exact (hk g h2).trans h3
/-- what changes below B alone leaves the matrix -/
theorem MatB.keep {B : Nat} {w w' : World} {eS eE : TypeId} {K : IntKind} {fv : Value} {m n c : Nat} {A : Nat → Nat → Nat} (h : MatB B w eS eE K fv m n c A) (hs : w.heap.size ≤ w'.heap.size) (hk : ∀ b, B ≤ b → w'.heap[b]? = w.heap[b]?) : MatB B w' eS eE K fv m n c A := by
  obtain ⟨h0, h1, h2, rb, cap, g, cc, h3, h4⟩ := h
  exact ⟨h0, Nat.lt_of_lt_of_le h1 hs, (World.cell?_of_block (a := ⟨m, 0, none⟩) (hk m h0)).trans h2, rb, cap, g, cc, (World.cell?_of_block (a := ⟨m, 1, none⟩) (hk m h0)).trans h3,
    ⟨own_keep h4.own hk, fun i hi => own_keep (h4.row i hi) hk, h4.inj⟩⟩

theorem grown_below {w w' : World} {row : Option Nat} (h : Below w.heap.size w w') : w.grownBy w' row := ⟨h.os, h.tape, h.output, h.size, fun k hk _ => h.block k hk⟩
theorem grown_set {w : World} {g j : Nat} (u : Value) : w.grownBy (w.setCell ⟨g, j, none⟩ u) (some g) :=
  ⟨rfl, rfl, rfl, by simp, fun k _ hk => Below.heap_setCell w ⟨g, j, none⟩ u k (fun e => hk (by rw [e]))⟩
theorem keepN {w W w1 : World} {R : Prop} (h : Below w.heap.size w W ∧ R) (h1 : Below W.heap.size W w1) : Below w.heap.size w w1 := bstep h.1 h1
theorem kcell {w w1 : World} (h : Below w.heap.size w w1) {b o : Nat} {v : Value} (hb : b < w.heap.size) (hc : w.cell? ⟨b, o, none⟩ = some v) : w1.cell? ⟨b, o, none⟩ = some v := (h.cell (p := ⟨b, o, none⟩) hb).trans hc
theorem bal {W w1 : World} {o : Obj} {R : Prop} (h : Below W.heap.size W w1 ∧ R) : Below W.heap.size W (w1.alloc o) := h.1.alloc h.1.size o
theorem bset {W w1 : World} {p : Addr} {v : Value} {R : Prop} (h : Below W.heap.size W w1 ∧ R) (hp : W.heap.size ≤ p.block) : Below W.heap.size W (w1.setCell p v) := h.1.setCell hp v
theorem dims_yes (r c : Int) (w : World) (h1 : 1 ≤ r) (h2 : r ≤ 256) (h3 : 1 ≤ c) (h4 : c ≤ 256) : Calls Try.prog 76 #[.int .i64 r, .int .i64 c] w fun e w' => e = .returned (.bool true) ∧ w = w' := by
  go_enter Try.func76, Try.ntmps76
  go_wp2
  go_ret
  exact ⟨rfl, rfl⟩
theorem bdrewN {B : Nat} (w : World) (n : Nat) : Below B w (w.drewN n) := ⟨rfl, rfl, rfl, Nat.le_refl _, fun _ _ => rfl⟩
/-- what an append of one row does to rows that are owned -/
theorem rows_append {w w2 w3 : World} {B : Nat} {eS eE : TypeId} {K : IntKind} {rv v : Value} {c k gr cr : Nat} {G : Nat → Nat → Nat} {g cc : Nat → Nat} (hne' : eS ≠ eE) (h1 : Below w.heap.size w w2) (hB : w.heap.size ≤ B)
    (h4 : ∀ i, i < k → w2.ownsRow B eE 1 (.slice (some ⟨g i, 0, none⟩) c (cc i)) c (Rg c fun j => .int K (G i j : Nat))) (h5 : ∀ i l, i < k → l < k → g i = g l → i = l)
    (h7 : ∀ i, i < k → g i ≠ gr) (hrow : w2.ownsRow B eE 1 (.slice (some ⟨gr, 0, none⟩) c cr) c (Rg c fun j => .int K (G k j : Nat)))
    (h3 : w2.ownsRow B eS 1 rv k (Rg k fun i => .slice (some ⟨g i, 0, none⟩) c (cc i)))
    (hv : w3.ownsRow B eS 1 v (k + 1) (Rg k (fun i => .slice (some ⟨g i, 0, none⟩) c (cc i)) ++ [.slice (some ⟨gr, 0, none⟩) c cr]))
    (hgr : w2.grownBy w3 rv.ownBlock) : Below w.heap.size w w3 ∧ ∃ g' cc' : Nat → Nat, w3.ownsRow B eS 1 v (k + 1) (Rg (k + 1) fun i => .slice (some ⟨g' i, 0, none⟩) c (cc' i)) ∧
      (∀ i, i < k + 1 → w3.ownsRow B eE 1 (.slice (some ⟨g' i, 0, none⟩) c (cc' i)) c (Rg c fun j => .int K (G i j : Nat))) ∧ (∀ i l, i < k + 1 → l < k + 1 → g' i = g' l → i = l) := by
  have hb3 : Below w.heap.size w w3 := h1.grown hgr h1.size (fun k hk => Nat.le_trans hB (h3.lt _ hk).1)
  have hne : ∀ {i}, i < k → (Value.slice (some ⟨g i, 0, none⟩) c (cc i)).ownBlock ≠ rv.ownBlock := fun {i} hi e => by
    rcases h3.2 with ⟨rfl, _⟩ | ⟨g1, c1, cur, rfl, _⟩
    · simp [Value.ownBlock] at e
    · have e' : g i = g1 := by simpa [Value.ownBlock] using e
      exact own_ne h3 (h4 i hi) hne' e'.symm
  have hne2 : (Value.slice (some ⟨gr, 0, none⟩) c cr).ownBlock ≠ rv.ownBlock := fun e => by
    rcases h3.2 with ⟨rfl, _⟩ | ⟨g1, c1, cur, rfl, _⟩
    · simp [Value.ownBlock] at e
    · have e' : gr = g1 := by simpa [Value.ownBlock] using e
      exact own_ne h3 hrow hne' e'.symm
  exact ⟨hb3, RowsAt.snoc k (fun i hi => (h4 i hi).kept hgr (.inr (hne hi))) (hrow.kept hgr (.inr hne2)) h5 h7 hv⟩
theorem news_of {w : World} {g c : Nat} {f : Nat → Value} (h : ∀ j, j < c → w.cell? ⟨g, j, none⟩ = some (f j)) : ∀ j u, (Rg c f)[j]? = some u → w.cell? ((⟨g, 0, none⟩ : Addr).add j) = some u := by
  intro j u hu
  have hj : j < c := by
    rcases Nat.lt_or_ge j c with h | h
    · exact h
    · rw [List.getElem?_eq_none (by rw [Rg_len]; exact h)] at hu; cases hu
  rw [Rg_get hj] at hu
  have e : (⟨g, 0, none⟩ : Addr).add j = ⟨g, j, none⟩ := by unfold Addr.add; split <;> simp_all
  rw [e, h j hj]; exact hu
theorem one_of {c : Nat} {K : IntKind} {f : Nat → Nat} : ∀ u ∈ Rg c (fun j => .int K (f j : Nat)), u.oneCell' = true := by
  intro u hu
  simp only [Rg, List.mem_map] at hu
  obtain ⟨j, _, rfl⟩ := hu
  rfl
theorem bsz {w w' : World} (h : Below w.heap.size w w') {g : Nat} (hg : g < w.heap.size) : g < w'.heap.size := Nat.lt_of_lt_of_le hg h.size
theorem Rg_app {K : IntKind} (c d : Nat) (f h : Nat → Nat) : Rg c (fun j => .int K (f j : Nat)) ++ Rg d (fun j => .int K (h j : Nat)) = Rg (c + d) (fun j => .int K ((if j < c then f j else h (j - c) : Nat) : Int)) := by
  apply List.ext_getElem?
  intro k
  by_cases hk : k < c
  · rw [List.getElem?_append_left (by rw [Rg_len]; exact hk), Rg_get hk, Rg_get (by omega), if_pos hk]
  · by_cases hk2 : k < c + d
    · rw [List.getElem?_append_right (by rw [Rg_len]; omega), Rg_len, Rg_get (by omega), Rg_get hk2, if_neg hk]
    · rw [List.getElem?_eq_none (by rw [List.length_append, Rg_len, Rg_len]; omega), List.getElem?_eq_none (by rw [Rg_len]; omega)]
def OwnNew (w : World) (base : Nat) (e : TypeId) (n : Nat) (xs : List Value) (v : Value) (w' : World) : Prop := w'.ownsRow base e 1 v n xs ∧ Below w.heap.size w w'
theorem RowsAt.first {w : World} {B : Nat} {eS eE : TypeId} {K : IntKind} {rb cap n c r i : Nat} {g cc : Nat → Nat} {A : Nat → Nat → Nat} (h : RowsAt w B eS eE K rb cap g cc n c A) (_hr : r < n) (hi : i < n) :
    (w.setCell ⟨rb, r, none⟩ (.slice (some ⟨g i, 0, none⟩) c (cc i))).cell? ⟨rb, i, none⟩ = some (.slice (some ⟨g i, 0, none⟩) c (cc i)) := by
  have h1 := (h.own.stored r (.slice (some ⟨g i, 0, none⟩) c (cc i))).1
  rw [Rg_set] at h1
  rw [own_cell h1 hi]
  split <;> rfl
theorem cell_heap1 {w : World} {b t : Nat} {v : Value} {fr : Nat × Nat} (h : w.heap[b]? = some (.cells #[v] t fr)) : w.cell? ⟨b, 0, none⟩ = some v := by simp [World.cell?, h]
end Go.Proofs.Ytkibophcodhcbaa
