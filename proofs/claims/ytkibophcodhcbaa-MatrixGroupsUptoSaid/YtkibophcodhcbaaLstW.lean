/- The walks of the law side's lists: marks, Lent, Same, Kept, Over, for elements of kind uint32. -/
import Derived.Test.YtkibophcodhcbaaLaidW
namespace Go.Proofs.Ytkibophcodhcbaa
open Go.RowKit

def mkW (k i : Nat) : Nat := (1000003 * (k + 1) + i) % 4294967296
theorem markW (k i : Nat) (w : World) (hk : k ≤ 1000) (hi : i ≤ 4294967296) :
    Calls Try.prog 117 #[.int .i64 k, .int .i64 i] w fun e w' => e = .returned (.int .u32 (mkW k i : Nat)) ∧ w = w' := by
  go_enter Try.func117, Try.ntmps117
  go_wp2
  go_ret
  refine ⟨ret_int ?_, rfl⟩
  unfold mkW
  omega

def lntW (n : Nat) (f : Nat → Nat) (j : Nat) : Nat := if j < n then f j else mkW 0 j
set_option maxRecDepth 100000 in
set_option maxHeartbeats 1000000 in
theorem lentW (g n cap : Nat) (f : Nat → Nat) (w : World) (hg : g < w.heap.size) (hn : n ≤ 65536) (he : ∀ j, j < n → w.cell? ⟨g, j, none⟩ = some (.int .u32 (f j : Nat))) :
    Calls Try.prog 72 #[.slice (some ⟨g, 0, none⟩) n cap] w fun e w' => ∃ v, e = .returned v ∧ w'.ownsRow w.heap.size 22 1 v (n + 70) (Rg (n + 70) fun j => .int .u32 (lntW n f j : Nat)) ∧ Below w.heap.size w w' := by
  obtain ⟨i0, hi0, hz0, hz1, hz2⟩ := info_parts elIW
  have HE := Lib.hid he
  clear he
  go_enter Try.func72, Try.ntmps72
  go_wp2
  go_loopw [3, 4] (fun v i wr => ∃ t : Nat, t ≤ n ∧ i = .int .i64 t ∧ wr.ownsRow w.heap.size 22 1 v t (Rg t fun j => .int .u32 (lntW n f j : Nat)) ∧ Below w.heap.size w wr) (fun _ i _ => n - (intOf i).toNat)
  case atStart => exact ⟨0, by omega, rfl, World.ownsRow_nil _ _ _ _, Below.refl _ _⟩
  case round =>
    obtain ⟨t, ht, rfl, hv, hb⟩ := hrel
    have HV := Lib.hid hv
    clear hv
    by_cases hlt : t < n
    · have c1 := kcell hb hg (HE.out t hlt)
      have hft : lntW n f t = f t := if_pos hlt
      have HF := Lib.hid hft
      clear hft
      go_wp2_with (
        (at_builtin
         refine wpList_append_own _ rfl _ _ 23 rfl w.heap.size 22 i0 (.int .u32 0) 1 4 Try.underlying23 hi0 hz0 hz1 hz2 rfl (by decide) u3 t _ rfl (HV.out.alloc _) ⟨wr.heap.size, 0, none⟩ 1 1 [.int .u32 (f t : Nat)] rfl rfl (cell_one_new _ _ _) ?c2 ?c3 ?c4 ?c5 ?_
         case c2 => intro u hu; simp at hu; subst hu; rfl
         case c3 => unfold maxLen; omega
         case c4 => omega
         case c5 => have := hb.size; simp; omega
         intro v' w3 hown' hgrow _
         have hg3 := (World.grownBy_alloc wr (.cells #[.int .u32 (f t : Nat)] 22) u3.ownBlock).trans hgrow
         have hb3 := hb.grown hg3 hb.size (fun k hk => (HV.out.lt k hk).1)
         have HO := Lib.hid hown'
         clear hown' hgrow hg3))
      go_roundw
      case rel => exact ⟨t + 1, by omega, by go_num, by rw [Rg_succ, HF.out]; exact HO.out, hb3⟩
      case measure => simp [intOf]; omega
    · obtain rfl : t = n := by omega
      go_wp2
      go_loopw [3, 5] (fun v i wr => ∃ k : Nat, k ≤ 70 ∧ i = .int .i64 k ∧ wr.ownsRow w.heap.size 22 1 v (t + k) (Rg (t + k) fun j => .int .u32 (lntW t f j : Nat)) ∧ Below w.heap.size w wr) (fun _ i _ => 70 - (intOf i).toNat)
      case atStart => exact ⟨0, by omega, rfl, HV.out, hb⟩
      case round =>
        obtain ⟨k, hk, rfl, hv2, hb2⟩ := hrel
        have HV2 := Lib.hid hv2
        clear hv2 HV
        by_cases hlt2 : k < 70
        · have hft : lntW t f (t + k) = mkW 0 (t + k) := if_neg (by omega)
          have HF := Lib.hid hft
          clear hft
          go_wp2_with (first
            | (go_at_call 117
               rw [show (t : Int) + (k : Int) = ((t + k : Nat) : Int) by omega]
               refine (markW 0 (t + k) _ (by omega) (by omega)).mono ?_; rintro e w' ⟨rfl, rfl⟩)
            | (at_builtin
               refine wpList_append_own _ rfl _ _ 23 rfl w.heap.size 22 i0 (.int .u32 0) 1 4 Try.underlying23 hi0 hz0 hz1 hz2 rfl (by decide) u3 (t + k) _ rfl (HV2.out.alloc _) ⟨wr.heap.size, 0, none⟩ 1 1 [.int .u32 (mkW 0 (t + k) : Nat)] rfl rfl (cell_one_new _ _ _) ?c2 ?c3 ?c4 ?c5 ?_
               case c2 => intro u hu; simp at hu; subst hu; rfl
               case c3 => unfold maxLen; omega
               case c4 => omega
               case c5 => have := hb2.size; simp; omega
               intro v' w3 hown' hgrow _
               have hg3 := (World.grownBy_alloc wr (.cells #[.int .u32 (mkW 0 (t + k) : Nat)] 22) u3.ownBlock).trans hgrow
               have hb3 := hb2.grown hg3 hb2.size (fun k hk => (HV2.out.lt k hk).1)
               have HO := Lib.hid hown'
               clear hown' hgrow hg3))
          go_roundw
          case rel => exact ⟨k + 1, by omega, by go_num, by rw [show t + (k + 1) = t + k + 1 by omega, Rg_succ, HF.out]; exact HO.out, hb3⟩
          case measure => simp [intOf]; omega
        · obtain rfl : k = 70 := by omega
          go_wp2
          go_ret
          exact ⟨_, rfl, HV2.out, hb2⟩

theorem sameLW (g1 g2 n k1 k2 : Nat) (f : Nat → Nat) (w : World) (hn : n ≤ 100000) (h1 : ∀ j, j < n → w.cell? ⟨g1, j, none⟩ = some (.int .u32 (f j : Nat))) (h2 : ∀ j, j < n → w.cell? ⟨g2, j, none⟩ = some (.int .u32 (f j : Nat))) :
    Calls Try.prog 119 #[.slice (some ⟨g1, 0, none⟩) n k1, .slice (some ⟨g2, 0, none⟩) n k2] w fun e w' => e = .returned (.bool true) ∧ Below w.heap.size w w' := by
  have H1 := Lib.hid h1
  have H2 := Lib.hid h2
  clear h1 h2
  go_enter Try.func119, Try.ntmps119
  go_wp2
  go_loopw [5] (fun i wr => ∃ t m : Nat, t ≤ n ∧ i = .int .i64 t ∧ wr = w.drewN m) (fun i _ => n - (intOf i).toNat)
  case atStart => exact ⟨0, 0, by omega, rfl, rfl⟩
  case round =>
    obtain ⟨t, m, ht, rfl, rfl⟩ := hrel
    by_cases hlt : t < n
    · have c1 := H1.out t hlt
      have c2 := H2.out t hlt
      go_wp2
      go_region
      go_wp2
      go_roundw
      case rel => exact ⟨t + 1, m + 1, by omega, by go_num, rfl⟩
      case measure => simp [intOf]; omega
    · obtain rfl : t = n := by omega
      go_wp2
      go_ret
      exact ⟨rfl, bdrewN w m⟩
theorem keptW (g1 g2 n k1 k2 : Nat) (f : Nat → Nat) (w : World) (hg : g2 < w.heap.size) (hg1 : g1 < w.heap.size) (hn : n ≤ 65536) (h1 : ∀ j, j < n + 70 → w.cell? ⟨g1, j, none⟩ = some (.int .u32 (lntW n f j : Nat))) (h2 : ∀ j, j < n → w.cell? ⟨g2, j, none⟩ = some (.int .u32 (f j : Nat))) :
    Calls Try.prog 74 #[.slice (some ⟨g1, 0, none⟩) (n + 70 : Nat) k1, .slice (some ⟨g2, 0, none⟩) n k2] w fun e w' => e = .returned (.bool true) ∧ Below w.heap.size w w' := by
  have H1 := Lib.hid h1
  have H2 := Lib.hid h2
  clear h1 h2
  go_enter Try.func74, Try.ntmps74
  go_wp2_with fail
  refine (lentW g2 n k2 f _ hg hn H2.out).mono ?_; rintro e w1 ⟨v, rfl, hv, hb⟩
  obtain ⟨gr, cr, rfl, -⟩ := hv.form (by omega)
  have HV := Lib.hid hv
  clear hv
  go_wp2_with fail
  refine (sameLW g1 gr (n + 70) k1 cr (lntW n f) _ (by omega) (fun j hj => kcell hb hg1 (H1.out j hj)) (fun j hj => own_cell HV.out hj)).mono ?_; rintro e w2 ⟨rfl, hb2⟩
  go_wp2
  go_ret
  exact ⟨rfl, bstep hb hb2⟩
set_option maxRecDepth 100000 in
theorem overW (B g n cap : Nat) (f : Nat → Nat) (w : World) (hn : n ≤ 100000) (h : w.ownsRow B 22 1 (.slice (some ⟨g, 0, none⟩) n cap) n (Rg n fun j => .int .u32 (f j : Nat))) :
    Calls Try.prog 75 #[.slice (some ⟨g, 0, none⟩) n cap] w fun e w' => e = .returned (.tuple #[]) ∧ Below B w w' ∧ ∀ b, b ≠ g → w'.heap[b]? = w.heap[b]? := by
  have H := Lib.hid h
  clear h
  go_enter Try.func75, Try.ntmps75
  go_wp2
  go_loopw [2] (fun i wr => ∃ t : Nat, ∃ f' : Nat → Nat, t ≤ n ∧ i = .int .i64 t ∧ wr.ownsRow B 22 1 (.slice (some ⟨g, 0, none⟩) n cap) n (Rg n fun j => .int .u32 (f' j : Nat)) ∧ Below B w wr ∧ ∀ b, b ≠ g → wr.heap[b]? = w.heap[b]?) (fun i _ => n - (intOf i).toNat)
  case atStart => exact ⟨0, f, by omega, rfl, H.out, Below.refl _ _, fun _ _ => rfl⟩
  case round =>
    obtain ⟨t, f', ht, rfl, hv, hb, hk⟩ := hrel
    have HK := Lib.hid hk
    clear hk
    by_cases hlt : t < n
    · have d1 := own_cell hv hlt
      have d2 := hv.frozenAt t
      have hg := (own_lt hv).1
      have hs := (hv.stored t (.int .u32 (mkW 7 (t + 3) : Nat))).1
      rw [Rg_set, Rg_congr (g := fun j => .int .u32 (((fun j => if j = t then mkW 7 (t + 3) else f' j) j : Nat) : Int)) (fun j _ => by dsimp only; split <;> rfl)] at hs
      have HS := Lib.hid hs
      clear hs hv
      go_wp2_with (
        (go_at_call 117
         rw [show (t : Int) + 3 = ((t + 3 : Nat) : Int) by omega]
         refine (markW 7 (t + 3) _ (by omega) (by omega)).mono ?_; rintro e w' ⟨rfl, rfl⟩))
      go_roundw
      case rel => exact ⟨t + 1, _, by omega, by go_num, HS.out, hb.setCell hg _, fun b h => (Below.heap_setCell _ _ _ b (fun e => h e)).trans (HK.out b h)⟩
      case measure => simp [intOf]; omega
    · obtain rfl : t = n := by omega
      go_wp2
      go_end0
      exact ⟨rfl, hb, HK.out⟩
end Go.Proofs.Ytkibophcodhcbaa
