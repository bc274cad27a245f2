/- The walks of slices.Grow (of a nil slice), slices.Concat of two rows, and of matrix.beside, for elements of kind byte. -/
import Derived.Test.YtkibophcodhcbaaMat1B
import Derived.Lib.AppendZeros
namespace Go.Proofs.Ytkibophcodhcbaa
open Go.RowKit

set_option maxRecDepth 100000 in
theorem growB (n : Nat) (w : World) (h0 : 0 < n) (hn : n ≤ 65536) :
    Calls Try.prog 126 #[.slice none 0 0, .int .i64 n] w fun e w' => ∃ v, e = .returned v ∧ OwnNew w w.heap.size 5 0 [] v w' := by
  obtain ⟨i0, hi0, hz0, hz1, hz2⟩ := info_parts elIB
  have hq : ∀ u : World, (Builtin.append_ #[42, 3] 42 #[.slice none 0 0, .int .i64 (n : Int)]).run Try.prog u = _ := fun u =>
    Lib.run_append_nil_zeros u 42 3 42 5 i0 (.int .u8 0) .i64 .i64 Try.underlying42 Try.underlying3 hi0 hz0 n h0 (by omega) (by omega) (by rw [hz2]; omega)
  have HQ := Lib.hid hq
  clear hq
  go_enter Try.func126, Try.ntmps126
  go_wp2_with ((at_builtin
                refine Lib.wpList_append_run _ rfl _ _ _ _ rfl _ _ rfl rfl _ _ (HQ.out _) ?_))
  go_ret
  refine ⟨_, rfl, ?_, (Below.refl _ _).drew.alloc (Nat.le_refl _) _⟩
  have hg := grownCap_ge w n 0 5
  refine World.ownsRow_made _ _ _ (Nat.le_refl _) (grownCap_le_maxLen w n 0 _ (by unfold maxLen; omega)) ?_
  simp only [Array.size_append, size_zeroCells]
  simp
  omega

set_option maxRecDepth 100000 in
set_option maxHeartbeats 1000000 in
theorem concatB (sb g0 g1 c0 c1 k0 k1 : Nat) (f0 f1 : Nat → Nat) (w : World) (h0 : 0 < c0) (h1 : 0 < c1) (l0 : c0 ≤ 1024) (l1 : c1 ≤ 1024)
    (ls : sb < w.heap.size) (lg0 : g0 < w.heap.size) (lg1 : g1 < w.heap.size)
    (s0 : w.cell? ⟨sb, 0, none⟩ = some (.slice (some ⟨g0, 0, none⟩) c0 k0)) (s1 : w.cell? ⟨sb, 1, none⟩ = some (.slice (some ⟨g1, 0, none⟩) c1 k1))
    (e0 : ∀ j, j < c0 → w.cell? ⟨g0, j, none⟩ = some (.int .u8 (f0 j : Nat))) (e1 : ∀ j, j < c1 → w.cell? ⟨g1, j, none⟩ = some (.int .u8 (f1 j : Nat))) :
    Calls Try.prog 120 #[.slice (some ⟨sb, 0, none⟩) 2 2] w fun e w' => ∃ v, e = .returned v ∧ OwnNew w w.heap.size 5 (c0 + c1) (Rg c0 (fun j => .int .u8 (f0 j : Nat)) ++ Rg c1 (fun j => .int .u8 (f1 j : Nat))) v w' := by
  obtain ⟨i0, hi0, hz0, hz1, hz2⟩ := info_parts elIB
  have E0 := Lib.hid e0
  have E1 := Lib.hid e1
  clear e0 e1
  have hs : 0 ≤ (c0 : Int) + (c1 : Int) := by omega
  go_enter Try.func120, Try.ntmps120
  go_wp2
  refine wp_loop_rounds 3 ?_
  rw [rounds_succ]
  go_wp2
  rw [rounds_succ]
  go_wp2
  rw [rounds_succ]
  go_wp2_with fail
  rw [show ((c0 : Int) + (c1 : Int)) = ((c0 + c1 : Nat) : Int) by omega]
  refine (growB (c0 + c1) _ (by omega) (by omega)).mono ?_; rintro e w1 ⟨v, rfl, hv, hb1⟩
  have t0 := kcell hb1 ls s0
  have t1 := kcell hb1 ls s1
  go_wp2
  refine wp_loop_rounds 3 ?_
  rw [rounds_succ]
  go_wp2_with (
    (at_builtin
     refine wpList_append_own _ rfl _ _ 42 rfl w.heap.size 5 i0 (.int .u8 0) 1 1 Try.underlying42 hi0 hz0 hz1 hz2 rfl (by decide) v 0 [] rfl hv ⟨g0, 0, none⟩ c0 k0 (Rg c0 (fun j => .int .u8 (f0 j : Nat))) rfl (by rw [Rg_len, Nat.mul_one]) (news_of fun j hj => kcell hb1 lg0 (E0.out j hj)) one_of ?c3 ?c4 hb1.size ?_
     case c3 => unfold maxLen; omega
     case c4 => omega
     intro v1 w2 hv1 hg1 _
     have hb2 := hb1.grown hg1 hb1.size (fun k hk => (hv.lt k hk).1)
     have u1 := kcell hb2 ls s1
     have HV1 := Lib.hid hv1
     clear hv1))
  rw [rounds_succ]
  go_wp2_with (
    (at_builtin
     refine wpList_append_own _ rfl _ _ 42 rfl w.heap.size 5 i0 (.int .u8 0) 1 1 Try.underlying42 hi0 hz0 hz1 hz2 rfl (by decide) v1 (0 + c0) _ rfl HV1.out ⟨g1, 0, none⟩ c1 k1 (Rg c1 (fun j => .int .u8 (f1 j : Nat))) rfl (by rw [Rg_len, Nat.mul_one]) (news_of fun j hj => kcell hb2 lg1 (E1.out j hj)) one_of ?c3 ?c4 hb2.size ?_
     case c3 => unfold maxLen; omega
     case c4 => omega
     intro v2 w3 hv2 hg2 _
     have HV2 := Lib.hid hv2
     have hb3 := hb2.grown hg2 hb2.size (fun k hk => (HV1.out.lt k hk).1)
     clear hv2))
  rw [rounds_succ]
  go_wp2
  go_ret
  have h := HV2.out
  rw [Nat.zero_add, List.nil_append] at h
  exact ⟨v2, rfl, h, hb3⟩
end Go.Proofs.Ytkibophcodhcbaa
