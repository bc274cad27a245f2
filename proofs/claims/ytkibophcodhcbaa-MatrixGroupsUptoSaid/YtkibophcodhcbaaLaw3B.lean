/- The walks of fresh and square, for elements of kind byte. -/
import Derived.Test.YtkibophcodhcbaaLaw1B
import Derived.Test.YtkibophcodhcbaaLaw2
namespace Go.Proofs.Ytkibophcodhcbaa
open Go.RowKit

set_option maxRecDepth 100000 in
theorem bytesB (g n cap : Nat) (f : Nat → Nat) (w : World) (hg : g < w.heap.size) (hn : n ≤ 65536) (hf : ∀ j, f j < 4294967296) (he : ∀ j, j < n → w.cell? ⟨g, j, none⟩ = some (.int .u32 (f j : Nat))) :
    Calls Try.prog 68 #[.slice (some ⟨g, 0, none⟩) n cap] w fun e w' => ∃ v, e = .returned v ∧ w'.ownsRow w.heap.size 5 1 v n (Rg n fun j => .int .u8 ((f j % 256 : Nat) : Int)) ∧ Below w.heap.size w w' := by
  obtain ⟨i0, hi0, hz0, hz1, hz2⟩ := info_parts elIB
  have HE := Lib.hid he
  have HF := Lib.hid hf
  clear he hf
  go_enter Try.func68, Try.ntmps68
  go_wp2
  go_loopw [3, 4] (fun v i wr => ∃ t : Nat, t ≤ n ∧ i = .int .i64 t ∧ wr.ownsRow w.heap.size 5 1 v t (Rg t fun j => .int .u8 ((f j % 256 : Nat) : Int)) ∧ Below w.heap.size w wr) (fun _ i _ => n - (intOf i).toNat)
  case atStart => exact ⟨0, by omega, rfl, World.ownsRow_nil _ _ _ _, Below.refl _ _⟩
  case round =>
    obtain ⟨t, ht, rfl, hv, hb⟩ := hrel
    have HV := Lib.hid hv
    clear hv
    by_cases hlt : t < n
    · have c1 := kcell hb hg (HE.out t hlt)
      have c2 := HF.out t
      obtain ⟨x, hx⟩ : ∃ x : Nat, x = f t % 256 := ⟨_, rfl⟩
      have e8 : ((f t : Nat) : Int) % 256 = (x : Int) := by rw [hx]; simp
      have HX := Lib.hid hx
      clear hx
      go_wp2_with (
        (at_builtin
         refine wpList_append_own _ rfl _ _ 42 rfl w.heap.size 5 i0 (.int .u8 0) 1 1 Try.underlying42 hi0 hz0 hz1 hz2 rfl (by decide) u3 t _ rfl (HV.out.alloc _) ⟨wr.heap.size, 0, none⟩ 1 1 [.int .u8 (x : Int)] rfl rfl (cell_one_new _ _ _) ?c2 ?c3 ?c4 ?c5 ?_
         case c2 => intro u hu; simp at hu; subst hu; rfl
         case c3 => unfold maxLen; omega
         case c4 => omega
         case c5 => have := hb.size; simp; omega
         intro v' w3 hown' hgrow _
         have hg3 := (World.grownBy_alloc wr (.cells #[.int .u8 (x : Int)] 5) u3.ownBlock).trans hgrow
         have hb3 := hb.grown hg3 hb.size (fun k hk => (HV.out.lt k hk).1)
         have HO := Lib.hid hown'
         clear hown' hgrow hg3))
      go_roundw
      case rel => exact ⟨t + 1, by omega, by go_num, by rw [Rg_succ, ← HX.out]; exact HO.out, hb3⟩
      case measure => simp [intOf]; omega
    · obtain rfl : t = n := by omega
      go_wp2
      go_ret
      exact ⟨_, rfl, HV.out, hb⟩
theorem own_capB {w : World} {b : Nat} {e : TypeId} {g n cap k : Nat} {xs : List Value} (h : w.ownsRow b e 1 (.slice (some ⟨g, 0, none⟩) n cap) k xs) : k ≤ cap := by
  rcases h.2 with ⟨h0, _⟩ | ⟨g', cap', cur, hv, _, _, h4, _⟩
  · cases h0
  · injection hv with _ _ h5
    subst h5
    exact h4
set_option maxRecDepth 100000 in
set_option maxHeartbeats 1000000 in
theorem freshB (g cap r c n : Nat) (f : Nat → Nat) (w : World) (hn : n = r * c) (hr : 1 ≤ r) (hr2 : r ≤ 256) (hc : 1 ≤ c) (hc2 : c ≤ 256) (hg : g < w.heap.size) (hf : ∀ j, f j < 4294967296) (he : ∀ j, j < n → w.cell? ⟨g, j, none⟩ = some (.int .u32 (f j : Nat))) :
    Calls Try.prog 31 #[.int .u32 0, .pointer none, .int .i64 r, .int .i64 c, .slice (some ⟨g, 0, none⟩) n cap] w fun e w' => ∃ x, e = .returned (.tuple #[(.agg #[.pointer (some ⟨x, 0, none⟩), .pointer none]), .int .i64 0, .bool true]) ∧
      MatAt w' 42 5 .u8 (.iface 81 (.agg #[])) x r c (fun i j => gfOps.add (f (i * c + j) % 256) gfOps.zero) ∧ Below w.heap.size w w' := by
  have hm : r * c ≤ 65536 := Nat.mul_le_mul hr2 hc2
  have hm1 : 1 ≤ r * c := Nat.mul_le_mul hr hc
  have hn0 : 0 < n := by omega
  have hn1 : n ≤ 65536 := by omega
  have HE := Lib.hid he
  have HN := Lib.hid hn
  clear he hn hm hm1
  have b0 := (Below.refl w.heap.size w).alloc (Nat.le_refl _) (.cells #[.pointer none, .pointer none] 32)
  have s0 : (w.alloc (.cells #[.pointer none, .pointer none] 32)).heap[w.heap.size]? = some (.cells #[.pointer none, .pointer none] 32 (0, 0)) := heapLastB _ _ _ rfl
  have l0 : w.heap.size < (w.alloc (.cells #[.pointer none, .pointer none] 32)).heap.size := by simp
  go_enter Try.func31, Try.ntmps31
  go_wp2_with fail
  generalize w.alloc (.cells #[.pointer none, .pointer none] 32) = W0 at *
  refine (bytesB g n cap f W0 (bsz b0 hg) hn1 hf (fun j hj => kcell b0 hg (HE.out j hj))).mono ?_; rintro e w1 ⟨v1, rfl, hv1, hb1⟩
  obtain ⟨g1, k1, rfl, hg1, lg1⟩ := hv1.form hn0
  have V1 := Lib.hid hv1
  clear hv1
  go_wp2_with fail
  refine (lentB g1 n k1 (fun j => f j % 256) w1 lg1 hn1 (fun j hj => own_cell V1.out hj)).mono ?_; rintro e w2 ⟨v2, rfl, hv2, hb2⟩
  obtain ⟨g2, k2, rfl, hg2, lg2⟩ := hv2.form (by omega)
  have hk2 : n + 70 ≤ k2 := own_capB hv2
  have V2 := Lib.hid hv2
  clear hv2
  go_wp2_with fail
  refine (new0B g2 n k2 r c (fun j => f j % 256) w2 trivial hr hr2 hc hc2 lg2 (fun t ht => by have h := own_cell V2.out (show t < n + 70 by have := HN.out; omega); rw [show lntB n (fun j => f j % 256) t = (fun j => f j % 256) t from if_pos (by have := HN.out; omega)] at h; exact h) (fun t => Nat.mod_lt _ (by omega)) HN.out).mono ?_; rintro e w3 ⟨x, rfl, hx, hb3⟩
  have X3 := Lib.hid hx
  clear hx
  go_wp2_with fail
  refine (keptB g2 g1 n k2 k1 (fun j => f j % 256) w3 (bsz (bstep hb2 hb3) lg1) (bsz hb3 lg2) hn1 (fun j hj => kcell hb3 lg2 (own_cell V2.out hj)) (fun j hj => kcell (bstep hb2 hb3) lg1 (own_cell V1.out hj))).mono ?_; rintro e w4 ⟨rfl, hb4⟩
  have X4 := Lib.hid (X3.out.below hb4)
  go_wp2_with fail
  refine (overB w1.heap.size g2 (n + 70) k2 (lntB n (fun j => f j % 256)) w4 (by omega) (own_below (own_below V2.out hb3) hb4)).mono ?_; rintro e w5 ⟨rfl, hb5, hk5⟩
  have X5 := Lib.hid (X4.out.keep hb5.size (fun b hb => hk5 b (by omega))).mat
  have lW : w.heap.size < w1.heap.size := bsz hb1 l0
  have hs : w5.heap[w.heap.size]? = some (.cells #[.pointer none, .pointer none] 32 (0, 0)) := by
    rw [hb5.block _ lW, (bstep hb2 (bstep hb3 hb4)).block _ lW, hb1.block _ l0, s0]
  have HS := Lib.hid hs
  have hbt : Below w.heap.size w w5 := (bstep (bstep b0 hb1) (bstep hb2 (bstep hb3 hb4))).trans (hb5.mono (Nat.le_of_lt lW))
  have e9 := hb5.cell (p := ⟨w.heap.size, 0, none⟩) lW
  have c50 : w5.cell? ⟨w.heap.size, 0, none⟩ = some (.pointer none) := by simp [World.cell?, HS.out]
  have c51 : w5.cell? ⟨w.heap.size, 1, none⟩ = some (.pointer none) := by simp [World.cell?, HS.out]
  have f50 : w5.frozen? ⟨w.heap.size, 0, none⟩ = false := by simp [World.frozen?, HS.out]
  have f51 : w5.frozen? ⟨w.heap.size, 1, none⟩ = false := by simp [World.frozen?, HS.out]
  clear hs hk5 e9
  go_wp2
  obtain ⟨e0, e1, e2⟩ := finB HS.out X5.out (.pointer (some ⟨x, 0, none⟩)) (.pointer none)
  (try simp only [Exit.inBlock, Exit.then])
  refine bodyPost_ret (res2B rfl _ _ rfl (loadMatB _ _ _ _ e0 e1)) rfl ?_
  exact ⟨x, rfl, e2, (hbt.setCell (Nat.le_refl _) _).setCell (Nat.le_refl _) _⟩
end Go.Proofs.Ytkibophcodhcbaa
