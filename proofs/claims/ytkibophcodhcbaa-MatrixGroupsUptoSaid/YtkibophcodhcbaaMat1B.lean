/- The walks of matrix.made, Rows, Cols, At, dot, the makers and their closures, for elements of kind byte. -/
import Derived.Test.YtkibophcodhcbaaLaidB
import Derived.Test.YtkibophcodhcbaaFldB
namespace Go.Proofs.Ytkibophcodhcbaa
open Go.RowKit

theorem madeB (ft : TypeId) (fx : Value) (m : Nat) (w : World) (h : w.cell? ⟨m, 0, none⟩ = some (.iface ft fx)) :
    Calls Try.prog 81 #[.pointer (some ⟨m, 0, none⟩)] w fun e w' => e = .returned (.bool true) ∧ w = w' := by
  go_enter Try.func81, Try.ntmps81
  go_wp2
  go_ret
  exact ⟨rfl, rfl⟩
theorem rowsB (ft : TypeId) (fx : Value) (m n c : Nat) (A : Nat → Nat → Nat) (w : World) (h : MatAt w 42 5 .u8 (.iface ft fx) m n c A) :
    Calls Try.prog 83 #[.pointer (some ⟨m, 0, none⟩)] w fun e w' => e = .returned (.int .i64 n) ∧ w = w' := by
  obtain ⟨h1, h2, rb, cap, g, cc, h3, hR⟩ := h
  go_enter Try.func83, Try.ntmps83
  go_wp2_with (refine (madeB ft fx m _ h2).mono ?_; rintro e w' ⟨rfl, rfl⟩)
  go_ret
  exact ⟨rfl, rfl⟩
theorem colsB (ft : TypeId) (fx : Value) (m n c : Nat) (A : Nat → Nat → Nat) (w : World) (h : MatAt w 42 5 .u8 (.iface ft fx) m n c A) (hn : 0 < n) :
    Calls Try.prog 82 #[.pointer (some ⟨m, 0, none⟩)] w fun e w' => e = .returned (.int .i64 c) ∧ w = w' := by
  obtain ⟨h1, h2, rb, cap, g, cc, h3, hR⟩ := h
  have c0 := hR.c1 hn
  go_enter Try.func82, Try.ntmps82
  go_wp2_with (refine (madeB ft fx m _ h2).mono ?_; rintro e w' ⟨rfl, rfl⟩)
  go_ret
  exact ⟨rfl, rfl⟩
theorem atB (ft : TypeId) (fx : Value) (m n c : Nat) (A : Nat → Nat → Nat) (w : World) (r k : Nat) (h : MatAt w 42 5 .u8 (.iface ft fx) m n c A) (hr : r < n) (hk : k < c) (_hn : n ≤ 256) (_hc : c ≤ 256) :
    Calls Try.prog 65 #[.pointer (some ⟨m, 0, none⟩), .int .i64 r, .int .i64 k] w fun e w' => e = .returned (.tuple #[.int .u8 (A r k : Nat), .int .i64 0]) ∧ w = w' := by
  have HM := Lib.hid h
  obtain ⟨h1, h2, rb, cap, g, cc, h3, hR⟩ := h
  have c0 := hR.c1 hr
  have c1 := hR.c2 hr hk
  have hn0 : 0 < n := by omega
  go_enter Try.func65, Try.ntmps65
  go_wp2_with (first
    | (go_at_call 81; refine (madeB ft fx m _ h2).mono ?_; rintro e w' ⟨rfl, rfl⟩)
    | (go_at_call 83; refine (rowsB ft fx m n c A _ HM.out).mono ?_; rintro e w' ⟨rfl, rfl⟩)
    | (go_at_call 82; refine (colsB ft fx m n c A _ HM.out hn0).mono ?_; rintro e w' ⟨rfl, rfl⟩))
  go_ret2
  exact ⟨rfl, rfl⟩


set_option maxRecDepth 100000 in
theorem ident1B (b i j : Nat) (w : World) (hF : FHB w) (hb : w.cell? ⟨b, 0, none⟩ = some (.iface 81 (.agg #[]))) :
    Calls Try.prog 78 #[.int .i64 i, .int .i64 j, .pointer (some ⟨b, 0, none⟩)] w fun e w' => e = .returned (.int .u8 (if i = j then gfOps.one else gfOps.zero : Nat)) ∧ Below w.heap.size w w' := by
  by_cases hij : i = j
  · subst hij
    rw [if_pos rfl]
    go_enter Try.func78, Try.ntmps78
    go_wp2_with (refine (onB _ hF).mono ?_; rintro e w' ⟨rfl, hb1⟩)
    go_ret
    exact ⟨rfl, hb1⟩
  · rw [if_neg hij]
    have hh : ((i : Int) == (j : Int)) = false := by rw [beq_eq_false_iff_ne]; omega
    go_enter Try.func78, Try.ntmps78
    go_wp2_with (refine (zrB _ hF).mono ?_; rintro e w' ⟨rfl, hb1⟩)
    go_ret
    exact ⟨rfl, hb1⟩
set_option maxRecDepth 100000 in
theorem identB (n : Nat) (w : World) (hF : FHB w) (hn : 1 ≤ n) (hn2 : n ≤ 256) :
    Calls Try.prog 32 #[.iface 81 (.agg #[]), .int .i64 n] w fun e w' => ∃ m, e = .returned (.tuple #[.pointer (some ⟨m, 0, none⟩), .int .i64 0]) ∧ MatAt w' 42 5 .u8 (.iface 81 (.agg #[])) m n n (idN gfOps) ∧ Below w.heap.size w w' := by
  have hbx := (Below.refl w.heap.size w).alloc (Nat.le_refl _) (.cells #[.iface 81 (.agg #[])] 130)
  have HB := Lib.hid hbx
  clear hbx
  go_enter Try.func32, Try.ntmps32
  go_wp2_with (first
    | (go_at_call 76; refine (dims_yes _ _ _ (by omega) (by omega) (by omega) (by omega)).mono ?_; rintro e w' ⟨rfl, rfl⟩)
    | (go_at_call 77
       refine (laidB 81 (.agg #[]) n n 78 #[.pointer (some ⟨w.heap.size, 0, none⟩)] (idN gfOps) _ (by omega) (by omega) (fun args w => Try.call78 args w)
         (fun i j w' _ _ hb => ident1B w.heap.size i j w' (hF.below (bstep HB.out hb)) ?c1)).mono ?_
       case c1 => rw [hb.cell (p := ⟨w.heap.size, 0, none⟩) (by simp)]; simp
       rintro e w1 ⟨m, rfl, hm, hb1⟩))
  go_ret2
  exact ⟨m, rfl, hm (by omega), bstep HB.out hb1⟩

set_option maxRecDepth 100000 in
set_option maxHeartbeats 1000000 in
theorem new1B (bf be bc g len cap n c : Nat) (l : Nat → Nat) (i j : Nat) (w : World) (hF : FHB w) (hn : n ≤ 256) (hc : c ≤ 256)
    (lf : bf < w.heap.size) (le : be < w.heap.size) (lc : bc < w.heap.size) (lg : g < w.heap.size)
    (cf : w.cell? ⟨bf, 0, none⟩ = some (.iface 81 (.agg #[]))) (ce : w.cell? ⟨be, 0, none⟩ = some (.slice (some ⟨g, 0, none⟩) len cap)) (cc : w.cell? ⟨bc, 0, none⟩ = some (.int .i64 c))
    (cl : ∀ t, t < n * c → w.cell? ⟨g, t, none⟩ = some (.int .u8 (l t : Nat))) (hl : ∀ t, l t < 256) (hlen : len = n * c) (hi : i < n) (hj : j < c) :
    Calls Try.prog 105 #[.int .i64 i, .int .i64 j, .pointer (some ⟨bf, 0, none⟩), .pointer (some ⟨be, 0, none⟩), .pointer (some ⟨bc, 0, none⟩)] w fun e w' => e = .returned (.int .u8 (gfOps.add (l (i * c + j)) gfOps.zero : Nat)) ∧ Below w.heap.size w w' := by
  have ht : i * c + j < n * c := by
    have : (i + 1) * c ≤ n * c := Nat.mul_le_mul_right c hi
    rw [Nat.add_mul, Nat.one_mul] at this; omega
  have hm : n * c ≤ 65536 := Nat.mul_le_mul hn hc
  have hmi : (i : Int) * (c : Int) = ((i * c : Nat) : Int) := by simp
  have hlt : (i : Int) * (c : Int) + (j : Int) < (len : Int) := by rw [hmi]; omega
  have h0 : 0 ≤ (i : Int) * (c : Int) := by rw [hmi]; omega
  have hcu : (i : Int) * (c : Int) ≤ 65536 := by rw [hmi]; omega
  have e1 : IntKind.i64.wrap ((i : Int) * (c : Int)) = (i : Int) * (c : Int) := IntWalk.i64_in _ (by omega)
  have e2 : IntKind.i64.wrap ((i : Int) * (c : Int) + (j : Int)) = (i : Int) * (c : Int) + (j : Int) := IntWalk.i64_in _ (by omega)
  have h2 : 0 ≤ (i : Int) * (c : Int) + (j : Int) := by omega
  have hnn : ((i : Int) * (c : Int) + (j : Int)).toNat = i * c + j := by rw [hmi]; omega
  have cx := cl _ ht
  have HL := Lib.hid (hl (i * c + j))
  have hz := hF.lt.zr
  have HC := Lib.hid cl
  have HLEN := Lib.hid hlen
  clear hlen
  have nA := naAdB
  have HS := Lib.hid hl
  clear cl hl hmi
  go_enter Try.func105, Try.ntmps105
  go_wp2
  go_region_held3 (fun w' => Below w.heap.size w w' ∧ w'.cell? ⟨bf, 0, none⟩ = some (.iface 81 (.agg #[])) ∧ w'.cell? ⟨be, 0, none⟩ = some (.slice (some ⟨g, 0, none⟩) len cap) ∧ w'.cell? ⟨bc, 0, none⟩ = some (.int .i64 c) ∧ w'.cell? ⟨g, i * c + j, none⟩ = some (.int .u8 (l (i * c + j) : Nat)))
    (first | assumption | exact ⟨(Below.refl _ _).drew, cf, ce, cc, cx⟩ | (have hk := keepN (by assumption) hb1; exact ⟨hk, kcell hk lf cf, kcell hk le ce, kcell hk lc cc, kcell hk lg cx⟩))
    (first
      | (go_at_call 158; refine (zrB _ (hF.below ?_)).mono ?_; (first | exact And.left (by assumption) | exact (Below.refl _ _).drew); rintro e w1 ⟨rfl, hb1⟩)
      | (go_at_call 153; refine (adB _ _ _ (hF.below ?_) HL.out hz).mono ?_; (first | exact And.left (by assumption) | exact (Below.refl _ _).drew); rintro e w1 ⟨rfl, hb1⟩))
  all_goals go_wp2
  all_goals go_ret
  all_goals exact ⟨rfl, And.left (by assumption)⟩

set_option maxRecDepth 100000 in
theorem new0B (g len cap n c : Nat) (l : Nat → Nat) (w : World) (hF : FHB w) (hn : 1 ≤ n) (hn2 : n ≤ 256) (hc : 1 ≤ c) (hc2 : c ≤ 256) (lg : g < w.heap.size)
    (cl : ∀ t, t < n * c → w.cell? ⟨g, t, none⟩ = some (.int .u8 (l t : Nat))) (hl : ∀ t, l t < 256) (hlen : len = n * c) :
    Calls Try.prog 41 #[.iface 81 (.agg #[]), .int .i64 n, .int .i64 c, .slice (some ⟨g, 0, none⟩) len cap] w fun e w' => ∃ m, e = .returned (.tuple #[.pointer (some ⟨m, 0, none⟩), .int .i64 0]) ∧ MatB w.heap.size w' 42 5 .u8 (.iface 81 (.agg #[])) m n c (fun i j => gfOps.add (l (i * c + j)) gfOps.zero) ∧ Below w.heap.size w w' := by
  have hm : n * c ≤ 65536 := Nat.mul_le_mul hn2 hc2
  have hmi : (n : Int) * (c : Int) = ((n * c : Nat) : Int) := by simp
  have hm1 : (n : Int) * (c : Int) ≤ 65536 := by rw [hmi]; omega
  have hm0 : 0 ≤ (n : Int) * (c : Int) := by rw [hmi]; omega
  have hne : ((len : Int) != (n : Int) * (c : Int)) = false := by rw [hmi, bne_eq_false_iff_eq]; omega
  have HB := Lib.hid ((((Below.refl w.heap.size w).alloc (Nat.le_refl _) (.cells #[.iface 81 (.agg #[])] 130)).alloc (by simp) (.cells #[.int .i64 (c : Int)] 3)).alloc (by simp; omega) (.cells #[.slice (some ⟨g, 0, none⟩) len cap] 42))
  have HL := Lib.hid hl
  have HC := Lib.hid cl
  have HLEN := Lib.hid hlen
  clear hl cl hmi hlen
  go_enter Try.func41, Try.ntmps41
  go_wp2_with (go_at_call 76; refine (dims_yes _ _ _ (by omega) (by omega) (by omega) (by omega)).mono ?_; rintro e w' ⟨rfl, rfl⟩)
  refine (laid0B 81 (.agg #[]) n c 105 #[.pointer (some ⟨w.heap.size, 0, none⟩), .pointer (some ⟨w.heap.size + 1 + 1, 0, none⟩), .pointer (some ⟨w.heap.size + 1, 0, none⟩)] (fun i j => gfOps.add (l (i * c + j)) gfOps.zero) _ (by omega) (by omega) (fun args w => Try.call105 args w)
         (fun i j w' hi hj hb => new1B w.heap.size (w.heap.size + 1 + 1) (w.heap.size + 1) g len cap n c l i j w' (hF.below (bstep HB.out hb)) hn2 hc2 ?d1 ?d2 ?d3 ?d4 ?d5 ?d6 ?d7 ?d8 HL.out HLEN.out hi hj)).mono ?_
  case d1 => have := hb.size; simp at this; omega
  case d2 => have := hb.size; simp at this; omega
  case d3 => have := hb.size; simp at this; omega
  case d4 => have := hb.size; simp at this; omega
  case d5 => rw [hb.cell (p := ⟨w.heap.size, 0, none⟩) (by simp; omega)]; simp [go_sem]
  case d6 => rw [hb.cell (p := ⟨w.heap.size + 1 + 1, 0, none⟩) (by simp)]; simp [go_sem]
  case d7 => rw [hb.cell (p := ⟨w.heap.size + 1, 0, none⟩) (by simp)]; simp [go_sem]
  case d8 => exact fun t ht => kcell (bstep HB.out hb) lg (HC.out t ht)
  rintro e w1 ⟨m, rfl, hmm, hb1⟩
  go_wp2
  go_ret2
  exact ⟨m, rfl, MatB.base (hmm (by omega)) (by simp; omega), bstep HB.out hb1⟩
theorem newB (g len cap n c : Nat) (l : Nat → Nat) (w : World) (hF : FHB w) (hn : 1 ≤ n) (hn2 : n ≤ 256) (hc : 1 ≤ c) (hc2 : c ≤ 256) (lg : g < w.heap.size)
    (cl : ∀ t, t < n * c → w.cell? ⟨g, t, none⟩ = some (.int .u8 (l t : Nat))) (hl : ∀ t, l t < 256) (hlen : len = n * c) :
    Calls Try.prog 41 #[.iface 81 (.agg #[]), .int .i64 n, .int .i64 c, .slice (some ⟨g, 0, none⟩) len cap] w fun e w' => ∃ m, e = .returned (.tuple #[.pointer (some ⟨m, 0, none⟩), .int .i64 0]) ∧ MatAt w' 42 5 .u8 (.iface 81 (.agg #[])) m n c (fun i j => gfOps.add (l (i * c + j)) gfOps.zero) ∧ Below w.heap.size w w' :=
  (new0B g len cap n c l w hF hn hn2 hc hc2 lg cl hl hlen).mono fun _ _ ⟨m, h1, h2, h3⟩ => ⟨m, h1, h2.mat, h3⟩
end Go.Proofs.Ytkibophcodhcbaa
