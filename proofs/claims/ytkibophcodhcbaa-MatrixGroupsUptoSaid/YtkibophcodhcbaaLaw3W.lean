/- The walks of fresh and square, for elements of kind uint32. -/
import Derived.Test.YtkibophcodhcbaaLaw1W
import Derived.Test.YtkibophcodhcbaaLaw2
namespace Go.Proofs.Ytkibophcodhcbaa
open Go.RowKit

theorem own_capW {w : World} {b : Nat} {e : TypeId} {g n cap k : Nat} {xs : List Value} (h : w.ownsRow b e 1 (.slice (some ⟨g, 0, none⟩) n cap) k xs) : k ≤ cap := by
  rcases h.2 with ⟨h0, _⟩ | ⟨g', cap', cur, hv, _, _, h4, _⟩
  · cases h0
  · injection hv with _ _ h5
    subst h5
    exact h4
set_option maxRecDepth 100000 in
set_option maxHeartbeats 1000000 in
theorem freshW (pb p g cap r c n : Nat) (f : Nat → Nat) (w : World) (hF : FHW pb p w) (hp0 : ¬ p = 0) (hn : n = r * c) (hr : 1 ≤ r) (hr2 : r ≤ 256) (hc : 1 ≤ c) (hc2 : c ≤ 256) (hg : g < w.heap.size) (hf : ∀ j, f j < 4294967296) (he : ∀ j, j < n → w.cell? ⟨g, j, none⟩ = some (.int .u32 (f j : Nat))) :
    Calls Try.prog 31 #[(.int .u32 (p : Nat)), (.pointer (some ⟨pb, 0, none⟩)), .int .i64 r, .int .i64 c, .slice (some ⟨g, 0, none⟩) n cap] w fun e w' => ∃ x, e = .returned (.tuple #[(.agg #[.pointer none, .pointer (some ⟨x, 0, none⟩)]), .int .i64 0, .bool true]) ∧
      MatAt w' 23 22 .u32 (.iface 25 (.pointer (some ⟨pb, 0, none⟩))) x r c (fun i j => (mdOps p).add (f (i * c + j)) (mdOps p).zero) ∧ Below w.heap.size w w' := by
  have hm : r * c ≤ 65536 := Nat.mul_le_mul hr2 hc2
  have hm1 : 1 ≤ r * c := Nat.mul_le_mul hr hc
  have hn0 : 0 < n := by omega
  have hn1 : n ≤ 65536 := by omega
  have HE := Lib.hid he
  have HN := Lib.hid hn
  have hp1 : p < 4294967296 := by have := hF.2.2.2; omega
  have HF := Lib.hid hF
  clear he hn hm hm1 hF
  have b0 := (Below.refl w.heap.size w).alloc (Nat.le_refl _) (.cells #[.pointer none, .pointer none] 32)
  have s0 : (w.alloc (.cells #[.pointer none, .pointer none] 32)).heap[w.heap.size]? = some (.cells #[.pointer none, .pointer none] 32 (0, 0)) := heapLastW _ _ _ rfl
  have l0 : w.heap.size < (w.alloc (.cells #[.pointer none, .pointer none] 32)).heap.size := by simp
  go_enter Try.func31, Try.ntmps31
  go_wp2_with fail
  generalize w.alloc (.cells #[.pointer none, .pointer none] 32) = W0 at *
  refine (lentW g n cap f W0 (bsz b0 hg) hn1 (fun j hj => kcell b0 hg (HE.out j hj))).mono ?_; rintro e w2 ⟨v2, rfl, hv2, hb2⟩
  obtain ⟨g2, k2, rfl, hg2, lg2⟩ := hv2.form (by omega)
  have hk2 : n + 70 ≤ k2 := own_capW hv2
  have V2 := Lib.hid hv2
  clear hv2
  go_wp2_with fail
  refine (new0W pb p g2 n k2 r c (f) w2 ((HF.out.below b0).below hb2) hr hr2 hc hc2 lg2 (fun t ht => by have h := own_cell V2.out (show t < n + 70 by have := HN.out; omega); rw [show lntW n (f) t = (f) t from if_pos (by have := HN.out; omega)] at h; exact h) hf HN.out).mono ?_; rintro e w3 ⟨x, rfl, hx, hb3⟩
  have X3 := Lib.hid hx
  clear hx
  go_wp2_with fail
  refine (keptW g2 g n k2 cap (f) w3 (bsz (bstep b0 (bstep hb2 hb3)) hg) (bsz hb3 lg2) hn1 (fun j hj => kcell hb3 lg2 (own_cell V2.out hj)) (fun j hj => kcell (bstep b0 (bstep hb2 hb3)) hg (HE.out j hj))).mono ?_; rintro e w4 ⟨rfl, hb4⟩
  have X4 := Lib.hid (X3.out.below hb4)
  go_wp2_with fail
  refine (overW W0.heap.size g2 (n + 70) k2 (lntW n (f)) w4 (by omega) (own_below (own_below V2.out hb3) hb4)).mono ?_; rintro e w5 ⟨rfl, hb5, hk5⟩
  have X5 := Lib.hid (X4.out.keep hb5.size (fun b hb => hk5 b (by omega))).mat
  have lW : w.heap.size < W0.heap.size := l0
  have hs : w5.heap[w.heap.size]? = some (.cells #[.pointer none, .pointer none] 32 (0, 0)) := by
    rw [hb5.block _ lW, (bstep hb2 (bstep hb3 hb4)).block _ lW, s0]
  have HS := Lib.hid hs
  have hbt : Below w.heap.size w w5 := (bstep b0 (bstep hb2 (bstep hb3 hb4))).trans (hb5.mono (Nat.le_of_lt lW))
  have e9 := hb5.cell (p := ⟨w.heap.size, 0, none⟩) lW
  have c50 : w5.cell? ⟨w.heap.size, 0, none⟩ = some (.pointer none) := by simp [World.cell?, HS.out]
  have c51 : w5.cell? ⟨w.heap.size, 1, none⟩ = some (.pointer none) := by simp [World.cell?, HS.out]
  have f50 : w5.frozen? ⟨w.heap.size, 0, none⟩ = false := by simp [World.frozen?, HS.out]
  have f51 : w5.frozen? ⟨w.heap.size, 1, none⟩ = false := by simp [World.frozen?, HS.out]
  clear hs hk5 e9
  go_wp2
  obtain ⟨e0, e1, e2⟩ := finW HS.out X5.out (.pointer none) (.pointer (some ⟨x, 0, none⟩))
  (try simp only [Exit.inBlock, Exit.then])
  refine bodyPost_ret (res2W rfl _ _ rfl (loadMatW _ _ _ _ e0 e1)) rfl ?_
  exact ⟨x, rfl, e2, (hbt.setCell (Nat.le_refl _) _).setCell (Nat.le_refl _) _⟩
end Go.Proofs.Ytkibophcodhcbaa
