/- The walk of square, for elements of kind byte. -/
import Derived.Test.YtkibophcodhcbaaLaw3B
namespace Go.Proofs.Ytkibophcodhcbaa
open Go.RowKit

/-- the list that square makes of what is handed in -/
def padNB (len : Nat) (z : Nat → Nat) (j : Nat) : Nat := if j < len then z j else 0
/-- the element that the field makes of a number -/
def elB (_p v : Nat) : Nat := gfOps.add (v % 256) gfOps.zero
set_option maxRecDepth 100000 in
set_option maxHeartbeats 2000000 in
theorem squareSB (pb p n : Nat) (a : Addr) (len cap : Nat) (z : Nat → Nat) (w : World)  (hn : 1 ≤ n) (hn2 : n ≤ 16) (hlen : len ≤ 9223372036854775807) (ha : 0 < len → a.block < w.heap.size) (hz : ∀ j, z j < 4294967296) (he : ∀ j, j < len → w.cell? (a.add j) = some (.int .u32 (z j : Nat))) :
    Calls Try.prog 9 #[(.int .u32 0), (.pointer none), .int .i64 n, .slice (some a) len cap] w fun e w' => ∃ x, e = .returned (.tuple #[(.agg #[.pointer (some ⟨x, 0, none⟩), .pointer none]), .bool true]) ∧
      MatAt w' 42 5 .u8 (.iface 81 (.agg #[])) x n n (fun i j => elB p (padNB len z (i * n + j))) ∧ Below w.heap.size w w' := by
  obtain ⟨i0, hi0, hz0, hz1, hz2⟩ := info_parts (show (Try.prog.info? 22).map (fun i => (i.zero, i.size, i.bytes)) = some (some (.int .u32 0), 1, 4) by kernel_rfl)
  obtain ⟨m, hm⟩ : ∃ m, m = n * n := ⟨_, rfl⟩
  have hm1 : 1 ≤ m := by rw [hm]; exact Nat.mul_le_mul hn hn
  have hm2 : m ≤ 256 := by rw [hm]; exact Nat.mul_le_mul hn2 hn2
  have e1 : (n : Int) * (n : Int) = (m : Int) := by rw [hm]; simp
  have HM := Lib.hid hm
  have HE := Lib.hid he
  have HZ := Lib.hid hz
  clear hm he hz
  have b0 := (Below.refl w.heap.size w).alloc (Nat.le_refl _) (.cells #[.pointer none, .pointer none] 32)
  have s0 : (w.alloc (.cells #[.pointer none, .pointer none] 32)).heap[w.heap.size]? = some (.cells #[.pointer none, .pointer none] 32 (0, 0)) := heapLastB _ _ _ rfl
  have l0 : w.heap.size < (w.alloc (.cells #[.pointer none, .pointer none] 32)).heap.size := by simp
  go_enter Try.func9, Try.ntmps9
  go_wp2
  generalize w.alloc (.cells #[.pointer none, .pointer none] 32) = W0 at *
  go_loopw [10, 11, 12] (fun v i _ wr => ∃ t : Nat, t ≤ m ∧ i = .int .i64 t ∧ wr.ownsRow W0.heap.size 22 1 v t (Rg t fun j => .int .u32 (padNB len z j : Nat)) ∧ Below W0.heap.size W0 wr) (fun _ i _ _ => m - (intOf i).toNat)
  case atStart => exact ⟨0, by omega, rfl, World.ownsRow_nil _ _ _ _, Below.refl _ _⟩
  case round =>
    obtain ⟨t, ht, rfl, hv, hb⟩ := hrel
    have HV := Lib.hid hv
    clear hv
    by_cases hlt : t < m
    · by_cases hin : t < len
      · have c1 : wr.cell? (a.add t) = some (.int .u32 ((padNB len z t : Nat) : Int)) := by
          rw [(bstep b0 hb).cell (p := a.add t) (by rw [Go.ChangeShapes.block_add]; exact ha (by omega)), HE.out t hin, padNB, if_pos hin]
        have RW := Lib.hid (rfl : padNB len z t = padNB len z t)
        go_wp2_with (
          (at_builtin
           refine wpList_append_own _ rfl _ _ 23 rfl W0.heap.size 22 i0 (.int .u32 0) 1 4 Try.underlying23 hi0 hz0 hz1 hz2 rfl (by decide) u10 t _ rfl (HV.out.alloc _) ⟨wr.heap.size, 0, none⟩ 1 1 [.int .u32 ((padNB len z t : Nat) : Int)] rfl rfl (cell_one_new _ _ _) ?c2 ?c3 ?c4 ?c5 ?_
           case c2 => intro u hu; simp at hu; subst hu; rfl
           case c3 => unfold maxLen; omega
           case c4 => omega
           case c5 => have := hb.size; simp; omega
           intro v' w3 hown' hgrow _
           have hg3 := (World.grownBy_alloc wr (.cells #[.int .u32 ((padNB len z t : Nat) : Int)] 22) u10.ownBlock).trans hgrow
           have hb3 := hb.grown hg3 hb.size (fun k hk => (HV.out.lt k hk).1)
           have HO := Lib.hid hown'
           clear hown' hgrow hg3))
        go_roundw
        case rel => exact ⟨t + 1, by omega, by go_num, by rw [Rg_succ]; exact HO.out, hb3⟩
        case measure => simp [intOf]; omega
      · have RW := Lib.hid (show padNB len z t = 0 from if_neg hin)
        go_wp2_with (
          (at_builtin
           refine wpList_append_own _ rfl _ _ 23 rfl W0.heap.size 22 i0 (.int .u32 0) 1 4 Try.underlying23 hi0 hz0 hz1 hz2 rfl (by decide) u10 t _ rfl (HV.out.alloc _) ⟨wr.heap.size, 0, none⟩ 1 1 [.int .u32 0] rfl rfl (cell_one_new _ _ _) ?c2 ?c3 ?c4 ?c5 ?_
           case c2 => intro u hu; simp at hu; subst hu; rfl
           case c3 => unfold maxLen; omega
           case c4 => omega
           case c5 => have := hb.size; simp; omega
           intro v' w3 hown' hgrow _
           have hg3 := (World.grownBy_alloc wr (.cells #[.int .u32 0] 22) u10.ownBlock).trans hgrow
           have hb3 := hb.grown hg3 hb.size (fun k hk => (HV.out.lt k hk).1)
           have HO := Lib.hid hown'
           clear hown' hgrow hg3))
        go_roundw
        case rel => exact ⟨t + 1, by omega, by go_num, by rw [Rg_succ, RW.out]; exact HO.out, hb3⟩
        case measure => simp [intOf]; omega
    · obtain rfl : t = m := by omega
      obtain ⟨g1, k1, rfl, hg1, lg1⟩ := HV.out.form hm1
      have PL := Lib.hid (fun j => show padNB len z j < 4294967296 by unfold padNB; split; exact HZ.out j; omega)
      have lW : w.heap.size < wr.heap.size := bsz hb l0
      have hbw := bstep b0 hb
      go_wp2_with fail
      refine (freshB g1 k1 n n t (padNB len z) _ HM.out hn (by omega) hn (by omega) lg1 PL.out (fun j hj => own_cell HV.out hj)).mono ?_
      rintro e w2 ⟨x, rfl, hx, hb2⟩
      have X2 := Lib.hid hx
      have hbw2 := bstep hbw hb2
      have s2 : w2.heap[w.heap.size]? = some (.cells #[.pointer none, .pointer none] 32 (0, 0)) := by
        rw [hb2.block _ lW, hb.block _ l0, s0]
      have l2 : w.heap.size < w2.heap.size := bsz hb2 lW
      have S2 := Lib.hid s2
      clear hx s2 s0
      go_wp2
      have b3 := (Below.refl w2.heap.size w2).alloc (Nat.le_refl _) (.cells #[(.pointer (some ⟨x, 0, none⟩)), (.pointer none)] 32)
      have d0 : (w2.alloc (.cells #[(.pointer (some ⟨x, 0, none⟩)), (.pointer none)] 32)).cell? ⟨w2.heap.size, 0, none⟩ = some (.pointer (some ⟨x, 0, none⟩)) := by simp
      have d1 : (w2.alloc (.cells #[(.pointer (some ⟨x, 0, none⟩)), (.pointer none)] 32)).cell? ⟨w2.heap.size, 1, none⟩ = some (.pointer none) := by simp
      have lq : w2.heap.size < (w2.alloc (.cells #[(.pointer (some ⟨x, 0, none⟩)), (.pointer none)] 32)).heap.size := by simp
      have S3 := Lib.hid (show (w2.alloc (.cells #[(.pointer (some ⟨x, 0, none⟩)), (.pointer none)] 32)).heap[w.heap.size]? = _ from (b3.block _ l2).trans S2.out)
      have hbw3 := bstep hbw2 b3
      have X3 := Lib.hid (X2.out.below b3)
      generalize w2.alloc (.cells #[(.pointer (some ⟨x, 0, none⟩)), (.pointer none)] 32) = W3 at *
      generalize hq : w2.heap.size = q at *
      have l3 : w.heap.size < W3.heap.size := by omega
      have hne : w.heap.size ≠ q := by omega
      have c30 : W3.cell? ⟨w.heap.size, 0, none⟩ = some (.pointer none) := by simp [World.cell?, S3.out]
      have c31 : W3.cell? ⟨w.heap.size, 1, none⟩ = some (.pointer none) := by simp [World.cell?, S3.out]
      have f30 : W3.frozen? ⟨w.heap.size, 0, none⟩ = false := by simp [World.frozen?, S3.out]
      have f31 : W3.frozen? ⟨w.heap.size, 1, none⟩ = false := by simp [World.frozen?, S3.out]
      go_region_held3 (fun w' => w'.cell? ⟨q, 0, none⟩ = some (.pointer (some ⟨x, 0, none⟩)) ∧ w'.cell? ⟨q, 1, none⟩ = some (.pointer none))
        (first | assumption | exact ⟨d0, d1⟩ | (constructor <;> (rw [World.cell?_setCell_far _ _ _ _ hne, World.cell?_setCell_far _ _ _ _ hne]; first | assumption | exact And.left (by assumption) | exact And.right (by assumption))) | (trace_state; fail))
        (first
          | (go_at_call 11; refine (thereB x _).mono ?_; rintro e w4 ⟨rfl, hb4⟩; obtain ⟨hc5, hf5⟩ := bcell hb4
             have hk4 : w4.cell? ⟨q, 0, none⟩ = some (.pointer (some ⟨x, 0, none⟩)) ∧ w4.cell? ⟨q, 1, none⟩ = some (.pointer none) := ⟨(hc5 _ _ lq).trans d0, (hc5 _ _ lq).trans d1⟩
             have c40 : w4.cell? ⟨w.heap.size, 0, none⟩ = some (.pointer none) := (hc5 _ _ l3).trans c30
             have c41 : w4.cell? ⟨w.heap.size, 1, none⟩ = some (.pointer none) := (hc5 _ _ l3).trans c31
             have f40 : w4.frozen? ⟨w.heap.size, 0, none⟩ = false := (hf5 _ _ l3).trans f30
             have f41 : w4.frozen? ⟨w.heap.size, 1, none⟩ = false := (hf5 _ _ l3).trans f31
             clear hc5 hf5)
          | (go_at_call 11; refine (thereB x _).mono ?_; rintro e w4 ⟨rfl, hb4⟩; obtain ⟨hc5, hf5⟩ := bcell hb4
             have lq' : q < ((W3.setCell ⟨w.heap.size, 0, none⟩ (.pointer (some ⟨x, 0, none⟩))).setCell ⟨w.heap.size, 1, none⟩ (.pointer none)).heap.size := by simpa using lq
             have d0' : ((W3.setCell ⟨w.heap.size, 0, none⟩ (.pointer (some ⟨x, 0, none⟩))).setCell ⟨w.heap.size, 1, none⟩ (.pointer none)).cell? ⟨q, 0, none⟩ = some (.pointer (some ⟨x, 0, none⟩)) := by rw [World.cell?_setCell_far _ _ _ _ hne, World.cell?_setCell_far _ _ _ _ hne]; exact d0
             have d1' : ((W3.setCell ⟨w.heap.size, 0, none⟩ (.pointer (some ⟨x, 0, none⟩))).setCell ⟨w.heap.size, 1, none⟩ (.pointer none)).cell? ⟨q, 1, none⟩ = some (.pointer none) := by rw [World.cell?_setCell_far _ _ _ _ hne, World.cell?_setCell_far _ _ _ _ hne]; exact d1
             have hk4 : w4.cell? ⟨q, 0, none⟩ = some (.pointer (some ⟨x, 0, none⟩)) ∧ w4.cell? ⟨q, 1, none⟩ = some (.pointer none) := ⟨(hc5 _ _ lq').trans d0', (hc5 _ _ lq').trans d1'⟩
             clear hc5 hf5))
      all_goals go_wp2
      all_goals (try simp only [Exit.inBlock, Exit.then])
      · obtain ⟨e0, e1, e2⟩ := finB ((hb4.block _ l3).trans S3.out) (X3.out.below ((Below.refl _ _).drew.trans hb4)) (.pointer (some ⟨x, 0, none⟩)) (.pointer none)
        refine bodyPost_ret (res1B rfl _ _ rfl (loadMatB _ _ _ _ e0 e1)) rfl ?_
        exact ⟨x, rfl, e2, ((bstep hbw3 ((Below.refl _ _).drew.trans hb4)).setCell (Nat.le_refl _) _).setCell (Nat.le_refl _) _⟩
set_option maxRecDepth 100000 in
set_option maxHeartbeats 2000000 in
theorem squareNB (pb p n : Nat) (w : World)  (hn : 1 ≤ n) (hn2 : n ≤ 16) :
    Calls Try.prog 9 #[(.int .u32 0), (.pointer none), .int .i64 n, .slice none 0 0] w fun e w' => ∃ x, e = .returned (.tuple #[(.agg #[.pointer (some ⟨x, 0, none⟩), .pointer none]), .bool true]) ∧
      MatAt w' 42 5 .u8 (.iface 81 (.agg #[])) x n n (fun i j => elB p (padNB 0 (fun _ => 0) (i * n + j))) ∧ Below w.heap.size w w' := by
  obtain ⟨i0, hi0, hz0, hz1, hz2⟩ := info_parts (show (Try.prog.info? 22).map (fun i => (i.zero, i.size, i.bytes)) = some (some (.int .u32 0), 1, 4) by kernel_rfl)
  obtain ⟨m, hm⟩ : ∃ m, m = n * n := ⟨_, rfl⟩
  have hm1 : 1 ≤ m := by rw [hm]; exact Nat.mul_le_mul hn hn
  have hm2 : m ≤ 256 := by rw [hm]; exact Nat.mul_le_mul hn2 hn2
  have e1 : (n : Int) * (n : Int) = (m : Int) := by rw [hm]; simp
  have HM := Lib.hid hm
  clear hm
  have b0 := (Below.refl w.heap.size w).alloc (Nat.le_refl _) (.cells #[.pointer none, .pointer none] 32)
  have s0 : (w.alloc (.cells #[.pointer none, .pointer none] 32)).heap[w.heap.size]? = some (.cells #[.pointer none, .pointer none] 32 (0, 0)) := heapLastB _ _ _ rfl
  have l0 : w.heap.size < (w.alloc (.cells #[.pointer none, .pointer none] 32)).heap.size := by simp
  go_enter Try.func9, Try.ntmps9
  go_wp2
  generalize w.alloc (.cells #[.pointer none, .pointer none] 32) = W0 at *
  go_loopw [10, 11, 12] (fun v i _ wr => ∃ t : Nat, t ≤ m ∧ i = .int .i64 t ∧ wr.ownsRow W0.heap.size 22 1 v t (Rg t fun j => .int .u32 (padNB 0 (fun _ => 0) j : Nat)) ∧ Below W0.heap.size W0 wr) (fun _ i _ _ => m - (intOf i).toNat)
  case atStart => exact ⟨0, by omega, rfl, World.ownsRow_nil _ _ _ _, Below.refl _ _⟩
  case round =>
    obtain ⟨t, ht, rfl, hv, hb⟩ := hrel
    have HV := Lib.hid hv
    clear hv
    by_cases hlt : t < m
    · have hin : ¬ t < 0 := by omega
      have RW := Lib.hid (show padNB 0 (fun _ => 0) t = 0 from if_neg hin)
      go_wp2_with (
        (at_builtin
         refine wpList_append_own _ rfl _ _ 23 rfl W0.heap.size 22 i0 (.int .u32 0) 1 4 Try.underlying23 hi0 hz0 hz1 hz2 rfl (by decide) u10 t _ rfl (HV.out.alloc _) ⟨wr.heap.size, 0, none⟩ 1 1 [.int .u32 0] rfl rfl (cell_one_new _ _ _) ?c2 ?c3 ?c4 ?c5 ?_
         case c2 => intro u hu; simp at hu; subst hu; rfl
         case c3 => unfold maxLen; omega
         case c4 => omega
         case c5 => have := hb.size; simp; omega
         intro v' w3 hown' hgrow _
         have hg3 := (World.grownBy_alloc wr (.cells #[.int .u32 0] 22) u10.ownBlock).trans hgrow
         have hb3 := hb.grown hg3 hb.size (fun k hk => (HV.out.lt k hk).1)
         have HO := Lib.hid hown'
         clear hown' hgrow hg3))
      go_roundw
      case rel => exact ⟨t + 1, by omega, by go_num, by rw [Rg_succ, RW.out]; exact HO.out, hb3⟩
      case measure => simp [intOf]; omega
    · obtain rfl : t = m := by omega
      obtain ⟨g1, k1, rfl, hg1, lg1⟩ := HV.out.form hm1
      have PL := Lib.hid (fun j => show padNB 0 (fun _ => 0) j < 4294967296 by unfold padNB; split <;> omega)
      have lW : w.heap.size < wr.heap.size := bsz hb l0
      have hbw := bstep b0 hb
      go_wp2_with fail
      refine (freshB g1 k1 n n t (padNB 0 (fun _ => 0)) _ HM.out hn (by omega) hn (by omega) lg1 PL.out (fun j hj => own_cell HV.out hj)).mono ?_
      rintro e w2 ⟨x, rfl, hx, hb2⟩
      have X2 := Lib.hid hx
      have hbw2 := bstep hbw hb2
      have s2 : w2.heap[w.heap.size]? = some (.cells #[.pointer none, .pointer none] 32 (0, 0)) := by
        rw [hb2.block _ lW, hb.block _ l0, s0]
      have l2 : w.heap.size < w2.heap.size := bsz hb2 lW
      have S2 := Lib.hid s2
      clear hx s2 s0
      go_wp2
      have b3 := (Below.refl w2.heap.size w2).alloc (Nat.le_refl _) (.cells #[(.pointer (some ⟨x, 0, none⟩)), (.pointer none)] 32)
      have d0 : (w2.alloc (.cells #[(.pointer (some ⟨x, 0, none⟩)), (.pointer none)] 32)).cell? ⟨w2.heap.size, 0, none⟩ = some (.pointer (some ⟨x, 0, none⟩)) := by simp
      have d1 : (w2.alloc (.cells #[(.pointer (some ⟨x, 0, none⟩)), (.pointer none)] 32)).cell? ⟨w2.heap.size, 1, none⟩ = some (.pointer none) := by simp
      have lq : w2.heap.size < (w2.alloc (.cells #[(.pointer (some ⟨x, 0, none⟩)), (.pointer none)] 32)).heap.size := by simp
      have S3 := Lib.hid (show (w2.alloc (.cells #[(.pointer (some ⟨x, 0, none⟩)), (.pointer none)] 32)).heap[w.heap.size]? = _ from (b3.block _ l2).trans S2.out)
      have hbw3 := bstep hbw2 b3
      have X3 := Lib.hid (X2.out.below b3)
      generalize w2.alloc (.cells #[(.pointer (some ⟨x, 0, none⟩)), (.pointer none)] 32) = W3 at *
      generalize hq : w2.heap.size = q at *
      have l3 : w.heap.size < W3.heap.size := by omega
      have hne : w.heap.size ≠ q := by omega
      have c30 : W3.cell? ⟨w.heap.size, 0, none⟩ = some (.pointer none) := by simp [World.cell?, S3.out]
      have c31 : W3.cell? ⟨w.heap.size, 1, none⟩ = some (.pointer none) := by simp [World.cell?, S3.out]
      have f30 : W3.frozen? ⟨w.heap.size, 0, none⟩ = false := by simp [World.frozen?, S3.out]
      have f31 : W3.frozen? ⟨w.heap.size, 1, none⟩ = false := by simp [World.frozen?, S3.out]
      go_region_held3 (fun w' => w'.cell? ⟨q, 0, none⟩ = some (.pointer (some ⟨x, 0, none⟩)) ∧ w'.cell? ⟨q, 1, none⟩ = some (.pointer none))
        (first | assumption | exact ⟨d0, d1⟩ | (constructor <;> (rw [World.cell?_setCell_far _ _ _ _ hne, World.cell?_setCell_far _ _ _ _ hne]; first | assumption | exact And.left (by assumption) | exact And.right (by assumption))) | (trace_state; fail))
        (first
          | (go_at_call 11; refine (thereB x _).mono ?_; rintro e w4 ⟨rfl, hb4⟩; obtain ⟨hc5, hf5⟩ := bcell hb4
             have hk4 : w4.cell? ⟨q, 0, none⟩ = some (.pointer (some ⟨x, 0, none⟩)) ∧ w4.cell? ⟨q, 1, none⟩ = some (.pointer none) := ⟨(hc5 _ _ lq).trans d0, (hc5 _ _ lq).trans d1⟩
             have c40 : w4.cell? ⟨w.heap.size, 0, none⟩ = some (.pointer none) := (hc5 _ _ l3).trans c30
             have c41 : w4.cell? ⟨w.heap.size, 1, none⟩ = some (.pointer none) := (hc5 _ _ l3).trans c31
             have f40 : w4.frozen? ⟨w.heap.size, 0, none⟩ = false := (hf5 _ _ l3).trans f30
             have f41 : w4.frozen? ⟨w.heap.size, 1, none⟩ = false := (hf5 _ _ l3).trans f31
             clear hc5 hf5)
          | (go_at_call 11; refine (thereB x _).mono ?_; rintro e w4 ⟨rfl, hb4⟩; obtain ⟨hc5, hf5⟩ := bcell hb4
             have lq' : q < ((W3.setCell ⟨w.heap.size, 0, none⟩ (.pointer (some ⟨x, 0, none⟩))).setCell ⟨w.heap.size, 1, none⟩ (.pointer none)).heap.size := by simpa using lq
             have d0' : ((W3.setCell ⟨w.heap.size, 0, none⟩ (.pointer (some ⟨x, 0, none⟩))).setCell ⟨w.heap.size, 1, none⟩ (.pointer none)).cell? ⟨q, 0, none⟩ = some (.pointer (some ⟨x, 0, none⟩)) := by rw [World.cell?_setCell_far _ _ _ _ hne, World.cell?_setCell_far _ _ _ _ hne]; exact d0
             have d1' : ((W3.setCell ⟨w.heap.size, 0, none⟩ (.pointer (some ⟨x, 0, none⟩))).setCell ⟨w.heap.size, 1, none⟩ (.pointer none)).cell? ⟨q, 1, none⟩ = some (.pointer none) := by rw [World.cell?_setCell_far _ _ _ _ hne, World.cell?_setCell_far _ _ _ _ hne]; exact d1
             have hk4 : w4.cell? ⟨q, 0, none⟩ = some (.pointer (some ⟨x, 0, none⟩)) ∧ w4.cell? ⟨q, 1, none⟩ = some (.pointer none) := ⟨(hc5 _ _ lq').trans d0', (hc5 _ _ lq').trans d1'⟩
             clear hc5 hf5))
      all_goals go_wp2
      all_goals (try simp only [Exit.inBlock, Exit.then])
      · obtain ⟨e0, e1, e2⟩ := finB ((hb4.block _ l3).trans S3.out) (X3.out.below ((Below.refl _ _).drew.trans hb4)) (.pointer (some ⟨x, 0, none⟩)) (.pointer none)
        refine bodyPost_ret (res1B rfl _ _ rfl (loadMatB _ _ _ _ e0 e1)) rfl ?_
        exact ⟨x, rfl, e2, ((bstep hbw3 ((Below.refl _ _).drew.trans hb4)).setCell (Nat.le_refl _) _).setCell (Nat.le_refl _) _⟩
end Go.Proofs.Ytkibophcodhcbaa
