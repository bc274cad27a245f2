/- The walks of matrix.made, Rows, Cols, At, dot, the makers and their closures, for elements of kind uint32. -/
import Derived.Test.YtkibophcodhcbaaLaidW
import Derived.Test.YtkibophcodhcbaaFldW
namespace Go.Proofs.Ytkibophcodhcbaa
open Go.RowKit

theorem madeW (ft : TypeId) (fx : Value) (m : Nat) (w : World) (h : w.cell? ⟨m, 0, none⟩ = some (.iface ft fx)) :
    Calls Try.prog 87 #[.pointer (some ⟨m, 0, none⟩)] w fun e w' => e = .returned (.bool true) ∧ w = w' := by
  go_enter Try.func87, Try.ntmps87
  go_wp2
  go_ret
  exact ⟨rfl, rfl⟩
theorem rowsW (ft : TypeId) (fx : Value) (m n c : Nat) (A : Nat → Nat → Nat) (w : World) (h : MatAt w 23 22 .u32 (.iface ft fx) m n c A) :
    Calls Try.prog 89 #[.pointer (some ⟨m, 0, none⟩)] w fun e w' => e = .returned (.int .i64 n) ∧ w = w' := by
  obtain ⟨h1, h2, rb, cap, g, cc, h3, hR⟩ := h
  go_enter Try.func89, Try.ntmps89
  go_wp2_with (refine (madeW ft fx m _ h2).mono ?_; rintro e w' ⟨rfl, rfl⟩)
  go_ret
  exact ⟨rfl, rfl⟩
theorem colsW (ft : TypeId) (fx : Value) (m n c : Nat) (A : Nat → Nat → Nat) (w : World) (h : MatAt w 23 22 .u32 (.iface ft fx) m n c A) (hn : 0 < n) :
    Calls Try.prog 88 #[.pointer (some ⟨m, 0, none⟩)] w fun e w' => e = .returned (.int .i64 c) ∧ w = w' := by
  obtain ⟨h1, h2, rb, cap, g, cc, h3, hR⟩ := h
  have c0 := hR.c1 hn
  go_enter Try.func88, Try.ntmps88
  go_wp2_with (refine (madeW ft fx m _ h2).mono ?_; rintro e w' ⟨rfl, rfl⟩)
  go_ret
  exact ⟨rfl, rfl⟩
theorem atW (ft : TypeId) (fx : Value) (m n c : Nat) (A : Nat → Nat → Nat) (w : World) (r k : Nat) (h : MatAt w 23 22 .u32 (.iface ft fx) m n c A) (hr : r < n) (hk : k < c) (_hn : n ≤ 256) (_hc : c ≤ 256) :
    Calls Try.prog 66 #[.pointer (some ⟨m, 0, none⟩), .int .i64 r, .int .i64 k] w fun e w' => e = .returned (.tuple #[.int .u32 (A r k : Nat), .int .i64 0]) ∧ w = w' := by
  have HM := Lib.hid h
  obtain ⟨h1, h2, rb, cap, g, cc, h3, hR⟩ := h
  have c0 := hR.c1 hr
  have c1 := hR.c2 hr hk
  have hn0 : 0 < n := by omega
  go_enter Try.func66, Try.ntmps66
  go_wp2_with (first
    | (go_at_call 87; refine (madeW ft fx m _ h2).mono ?_; rintro e w' ⟨rfl, rfl⟩)
    | (go_at_call 89; refine (rowsW ft fx m n c A _ HM.out).mono ?_; rintro e w' ⟨rfl, rfl⟩)
    | (go_at_call 88; refine (colsW ft fx m n c A _ HM.out hn0).mono ?_; rintro e w' ⟨rfl, rfl⟩))
  go_ret2
  exact ⟨rfl, rfl⟩


set_option maxRecDepth 100000 in
theorem ident1W (pb p : Nat) (b i j : Nat) (w : World) (hF : FHW pb p w) (hb : w.cell? ⟨b, 0, none⟩ = some (.iface 25 (.pointer (some ⟨pb, 0, none⟩)))) :
    Calls Try.prog 80 #[.int .i64 i, .int .i64 j, .pointer (some ⟨b, 0, none⟩)] w fun e w' => e = .returned (.int .u32 (if i = j then (mdOps p).one else (mdOps p).zero : Nat)) ∧ Below w.heap.size w w' := by
  by_cases hij : i = j
  · subst hij
    rw [if_pos rfl]
    go_enter Try.func80, Try.ntmps80
    go_wp2_with (refine (onW pb p _ hF).mono ?_; rintro e w' ⟨rfl, hb1⟩)
    go_ret
    exact ⟨rfl, hb1⟩
  · rw [if_neg hij]
    have hh : ((i : Int) == (j : Int)) = false := by rw [beq_eq_false_iff_ne]; omega
    go_enter Try.func80, Try.ntmps80
    go_wp2_with (refine (zrW pb p _ hF).mono ?_; rintro e w' ⟨rfl, hb1⟩)
    go_ret
    exact ⟨rfl, hb1⟩
set_option maxRecDepth 100000 in
theorem identW (pb p : Nat) (n : Nat) (w : World) (hF : FHW pb p w) (hn : 1 ≤ n) (hn2 : n ≤ 256) :
    Calls Try.prog 33 #[.iface 25 (.pointer (some ⟨pb, 0, none⟩)), .int .i64 n] w fun e w' => ∃ m, e = .returned (.tuple #[.pointer (some ⟨m, 0, none⟩), .int .i64 0]) ∧ MatAt w' 23 22 .u32 (.iface 25 (.pointer (some ⟨pb, 0, none⟩))) m n n (idN (mdOps p)) ∧ Below w.heap.size w w' := by
  have hbx := (Below.refl w.heap.size w).alloc (Nat.le_refl _) (.cells #[.iface 25 (.pointer (some ⟨pb, 0, none⟩))] 134)
  have HB := Lib.hid hbx
  clear hbx
  go_enter Try.func33, Try.ntmps33
  go_wp2_with (first
    | (go_at_call 76; refine (dims_yes _ _ _ (by omega) (by omega) (by omega) (by omega)).mono ?_; rintro e w' ⟨rfl, rfl⟩)
    | (go_at_call 79
       refine (laidW 25 (.pointer (some ⟨pb, 0, none⟩)) n n 80 #[.pointer (some ⟨w.heap.size, 0, none⟩)] (idN (mdOps p)) _ (by omega) (by omega) (fun args w => Try.call80 args w)
         (fun i j w' _ _ hb => ident1W pb p w.heap.size i j w' (hF.below (bstep HB.out hb)) ?c1)).mono ?_
       case c1 => rw [hb.cell (p := ⟨w.heap.size, 0, none⟩) (by simp)]; simp
       rintro e w1 ⟨m, rfl, hm, hb1⟩))
  go_ret2
  exact ⟨m, rfl, hm (by omega), bstep HB.out hb1⟩

set_option maxRecDepth 100000 in
set_option maxHeartbeats 1000000 in
theorem new1W (pb p : Nat) (bf be bc g len cap n c : Nat) (l : Nat → Nat) (i j : Nat) (w : World) (hF : FHW pb p w) (hn : n ≤ 256) (hc : c ≤ 256)
    (lf : bf < w.heap.size) (le : be < w.heap.size) (lc : bc < w.heap.size) (lg : g < w.heap.size)
    (cf : w.cell? ⟨bf, 0, none⟩ = some (.iface 25 (.pointer (some ⟨pb, 0, none⟩)))) (ce : w.cell? ⟨be, 0, none⟩ = some (.slice (some ⟨g, 0, none⟩) len cap)) (cc : w.cell? ⟨bc, 0, none⟩ = some (.int .i64 c))
    (cl : ∀ t, t < n * c → w.cell? ⟨g, t, none⟩ = some (.int .u32 (l t : Nat))) (hl : ∀ t, l t < 4294967296) (hlen : len = n * c) (hi : i < n) (hj : j < c) :
    Calls Try.prog 118 #[.int .i64 i, .int .i64 j, .pointer (some ⟨bf, 0, none⟩), .pointer (some ⟨be, 0, none⟩), .pointer (some ⟨bc, 0, none⟩)] w fun e w' => e = .returned (.int .u32 ((mdOps p).add (l (i * c + j)) (mdOps p).zero : Nat)) ∧ Below w.heap.size w w' := by
  have ht : i * c + j < n * c := by
    have : (i + 1) * c ≤ n * c := Nat.mul_le_mul_right c hi
    rw [Nat.add_mul, Nat.one_mul] at this; omega
  have hm : n * c ≤ 65536 := Nat.mul_le_mul hn hc
  have hmi : (i : Int) * (c : Int) = ((i * c : Nat) : Int) := by simp
  have hlt : (i : Int) * (c : Int) + (j : Int) < (len : Int) := by rw [hmi]; omega
  have h0 : 0 ≤ (i : Int) * (c : Int) := by rw [hmi]; omega
  have hcu : (i : Int) * (c : Int) ≤ 65536 := by rw [hmi]; omega
  have e1 : IntKind.i64.wrap ((i : Int) * (c : Int)) = (i : Int) * (c : Int) := IntWalk.i64_in _ (by omega)
  have e2 : IntKind.i64.wrap ((i : Int) * (c : Int) + (j : Int)) = (i : Int) * (c : Int) + (j : Int) := IntWalk.i64_in _ (by omega)
  have h2 : 0 ≤ (i : Int) * (c : Int) + (j : Int) := by omega
  have hnn : ((i : Int) * (c : Int) + (j : Int)).toNat = i * c + j := by rw [hmi]; omega
  have cx := cl _ ht
  have HL := Lib.hid (hl (i * c + j))
  have hz := hF.lt.zr
  have HC := Lib.hid cl
  have HLEN := Lib.hid hlen
  clear hlen
  have nA := naAdW pb
  have HS := Lib.hid hl
  clear cl hl hmi
  go_enter Try.func118, Try.ntmps118
  go_wp2
  go_region_held3 (fun w' => Below w.heap.size w w' ∧ w'.cell? ⟨bf, 0, none⟩ = some (.iface 25 (.pointer (some ⟨pb, 0, none⟩))) ∧ w'.cell? ⟨be, 0, none⟩ = some (.slice (some ⟨g, 0, none⟩) len cap) ∧ w'.cell? ⟨bc, 0, none⟩ = some (.int .i64 c) ∧ w'.cell? ⟨g, i * c + j, none⟩ = some (.int .u32 (l (i * c + j) : Nat)))
    (first | assumption | exact ⟨(Below.refl _ _).drew, cf, ce, cc, cx⟩ | (have hk := keepN (by assumption) hb1; exact ⟨hk, kcell hk lf cf, kcell hk le ce, kcell hk lc cc, kcell hk lg cx⟩))
    (first
      | (go_at_call 148; refine (zrW pb p _ (hF.below ?_)).mono ?_; (first | exact And.left (by assumption) | exact (Below.refl _ _).drew); rintro e w1 ⟨rfl, hb1⟩)
      | (go_at_call 143; refine (adW pb p _ _ _ (hF.below ?_) HL.out hz).mono ?_; (first | exact And.left (by assumption) | exact (Below.refl _ _).drew); rintro e w1 ⟨rfl, hb1⟩))
  all_goals go_wp2
  all_goals go_ret
  all_goals exact ⟨rfl, And.left (by assumption)⟩

set_option maxRecDepth 100000 in
theorem new0W (pb p : Nat) (g len cap n c : Nat) (l : Nat → Nat) (w : World) (hF : FHW pb p w) (hn : 1 ≤ n) (hn2 : n ≤ 256) (hc : 1 ≤ c) (hc2 : c ≤ 256) (lg : g < w.heap.size)
    (cl : ∀ t, t < n * c → w.cell? ⟨g, t, none⟩ = some (.int .u32 (l t : Nat))) (hl : ∀ t, l t < 4294967296) (hlen : len = n * c) :
    Calls Try.prog 73 #[.iface 25 (.pointer (some ⟨pb, 0, none⟩)), .int .i64 n, .int .i64 c, .slice (some ⟨g, 0, none⟩) len cap] w fun e w' => ∃ m, e = .returned (.tuple #[.pointer (some ⟨m, 0, none⟩), .int .i64 0]) ∧ MatB w.heap.size w' 23 22 .u32 (.iface 25 (.pointer (some ⟨pb, 0, none⟩))) m n c (fun i j => (mdOps p).add (l (i * c + j)) (mdOps p).zero) ∧ Below w.heap.size w w' := by
  have hm : n * c ≤ 65536 := Nat.mul_le_mul hn2 hc2
  have hmi : (n : Int) * (c : Int) = ((n * c : Nat) : Int) := by simp
  have hm1 : (n : Int) * (c : Int) ≤ 65536 := by rw [hmi]; omega
  have hm0 : 0 ≤ (n : Int) * (c : Int) := by rw [hmi]; omega
  have hne : ((len : Int) != (n : Int) * (c : Int)) = false := by rw [hmi, bne_eq_false_iff_eq]; omega
  have HB := Lib.hid ((((Below.refl w.heap.size w).alloc (Nat.le_refl _) (.cells #[.iface 25 (.pointer (some ⟨pb, 0, none⟩))] 134)).alloc (by simp) (.cells #[.int .i64 (c : Int)] 3)).alloc (by simp; omega) (.cells #[.slice (some ⟨g, 0, none⟩) len cap] 23))
  have HL := Lib.hid hl
  have HC := Lib.hid cl
  have HLEN := Lib.hid hlen
  clear hl cl hmi hlen
  go_enter Try.func73, Try.ntmps73
  go_wp2_with (go_at_call 76; refine (dims_yes _ _ _ (by omega) (by omega) (by omega) (by omega)).mono ?_; rintro e w' ⟨rfl, rfl⟩)
  refine (laid0W 25 (.pointer (some ⟨pb, 0, none⟩)) n c 118 #[.pointer (some ⟨w.heap.size, 0, none⟩), .pointer (some ⟨w.heap.size + 1 + 1, 0, none⟩), .pointer (some ⟨w.heap.size + 1, 0, none⟩)] (fun i j => (mdOps p).add (l (i * c + j)) (mdOps p).zero) _ (by omega) (by omega) (fun args w => Try.call118 args w)
         (fun i j w' hi hj hb => new1W pb p w.heap.size (w.heap.size + 1 + 1) (w.heap.size + 1) g len cap n c l i j w' (hF.below (bstep HB.out hb)) hn2 hc2 ?d1 ?d2 ?d3 ?d4 ?d5 ?d6 ?d7 ?d8 HL.out HLEN.out hi hj)).mono ?_
  case d1 => have := hb.size; simp at this; omega
  case d2 => have := hb.size; simp at this; omega
  case d3 => have := hb.size; simp at this; omega
  case d4 => have := hb.size; simp at this; omega
  case d5 => rw [hb.cell (p := ⟨w.heap.size, 0, none⟩) (by simp; omega)]; simp [go_sem]
  case d6 => rw [hb.cell (p := ⟨w.heap.size + 1 + 1, 0, none⟩) (by simp)]; simp [go_sem]
  case d7 => rw [hb.cell (p := ⟨w.heap.size + 1, 0, none⟩) (by simp)]; simp [go_sem]
  case d8 => exact fun t ht => kcell (bstep HB.out hb) lg (HC.out t ht)
  rintro e w1 ⟨m, rfl, hmm, hb1⟩
  go_wp2
  go_ret2
  exact ⟨m, rfl, MatB.base (hmm (by omega)) (by simp; omega), bstep HB.out hb1⟩
theorem newW (pb p : Nat) (g len cap n c : Nat) (l : Nat → Nat) (w : World) (hF : FHW pb p w) (hn : 1 ≤ n) (hn2 : n ≤ 256) (hc : 1 ≤ c) (hc2 : c ≤ 256) (lg : g < w.heap.size)
    (cl : ∀ t, t < n * c → w.cell? ⟨g, t, none⟩ = some (.int .u32 (l t : Nat))) (hl : ∀ t, l t < 4294967296) (hlen : len = n * c) :
    Calls Try.prog 73 #[.iface 25 (.pointer (some ⟨pb, 0, none⟩)), .int .i64 n, .int .i64 c, .slice (some ⟨g, 0, none⟩) len cap] w fun e w' => ∃ m, e = .returned (.tuple #[.pointer (some ⟨m, 0, none⟩), .int .i64 0]) ∧ MatAt w' 23 22 .u32 (.iface 25 (.pointer (some ⟨pb, 0, none⟩))) m n c (fun i j => (mdOps p).add (l (i * c + j)) (mdOps p).zero) ∧ Below w.heap.size w w' :=
  (new0W pb p g len cap n c l w hF hn hn2 hc hc2 lg cl hl hlen).mono fun _ _ ⟨m, h1, h2, h3⟩ => ⟨m, h1, h2.mat, h3⟩
end Go.Proofs.Ytkibophcodhcbaa
