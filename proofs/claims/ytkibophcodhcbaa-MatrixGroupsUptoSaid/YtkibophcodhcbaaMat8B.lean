/- The walk of matrix.Inverse, for elements of kind byte. -/
import Derived.Test.YtkibophcodhcbaaMat7B
import Derived.Deep.DeepCutAuto
namespace Go.Proofs.Ytkibophcodhcbaa
open Go.RowKit

theorem inv1B (ft : TypeId) (fx : Value) (bo m n c : Nat) (A : Nat → Nat → Nat) (k : Nat) (w : World) (h : MatAt w 42 5 .u8 (.iface ft fx) m n c A)
    (co : w.cell? ⟨bo, 0, none⟩ = some (.pointer (some ⟨m, 0, none⟩))) (hk : k < n) :
    Calls Try.prog 97 #[.int .i64 k, .pointer (some ⟨bo, 0, none⟩)] w fun e w' => ∃ g1 k1, e = .returned (.slice (some ⟨g1, 0, none⟩) c k1) ∧ g1 < w'.heap.size ∧ (∀ j, j < c → w'.cell? ⟨g1, j, none⟩ = some (.int .u8 (A k j : Nat))) ∧ Below w.heap.size w w' := by
  obtain ⟨hm, h0, rb, cap, g, cc, h1, hR⟩ := h
  have a1 := hR.c1 hk
  have HR := Lib.hid hR
  clear hR
  go_enter Try.func97, Try.ntmps97
  go_wp2
  go_ret
  exact ⟨g k, cc k, rfl, HR.out.ltg hk, fun j hj => HR.out.c2 hk hj, Below.refl _ _⟩
theorem inv2B (B br bn rb cap n c d : Nat) (g cc : Nat → Nat) (A : Nat → Nat → Nat) (i j : Nat) (w : World) (h : RowsAt w B 42 5 .u8 rb cap g cc n c A) (hn : n ≤ 256) (hd : d ≤ 256) (hc : c ≤ 1024)
    (cr : w.cell? ⟨br, 0, none⟩ = some (.slice (some ⟨rb, 0, none⟩) n cap)) (cn : w.cell? ⟨bn, 0, none⟩ = some (.int .i64 d)) (hi : i < n) (hj : d + j < c) :
    Calls Try.prog 99 #[.int .i64 i, .int .i64 j, .pointer (some ⟨br, 0, none⟩), .pointer (some ⟨bn, 0, none⟩)] w fun e w' => e = .returned (.int .u8 (A i (d + j) : Nat)) ∧ Below w.heap.size w w' := by
  have a1 := h.c1 hi
  have a2 := h.c2 hi hj
  have e1 : IntKind.i64.wrap ((d : Int) + (j : Int)) = (d : Int) + (j : Int) := IntWalk.i64_in _ (by omega)
  have e2 : ((d : Int) + (j : Int)).toNat = d + j := by omega
  have e3 : 0 ≤ (d : Int) + (j : Int) := by omega
  have e4 : (d : Int) + (j : Int) < (c : Int) := by omega
  go_enter Try.func99, Try.ntmps99
  go_wp2
  refine wp_region_rg 10 (fun w' => Below w.heap.size w w' ∧ w'.cell? ⟨br, 0, none⟩ = some (.slice (some ⟨rb, 0, none⟩) n cap) ∧ w'.cell? ⟨bn, 0, none⟩ = some (.int .i64 d) ∧ w'.cell? ⟨rb, i, none⟩ = some (.slice (some ⟨g i, 0, none⟩) c (cc i)) ∧ w'.cell? ⟨g i, d + j, none⟩ = some (.int .u8 (A i (d + j) : Nat)))
    (by kernel_rfl) (by kernel_rfl) ⟨(Below.refl _ _).drew, cr, cn, a1, a2⟩ ?_
  iterate 10
    refine' RG.plain rfl (by rfl) (fun w1 hw1 => ?_) ?_
    rotate_left
    · (try dsimp only at hw1)
      go_simp
      first | done | with_reducible rfl
    simp only [Act.put, List.setIfInBounds_toArray, List.set_cons_zero, List.set_cons_succ]
  intro w2 hw2
  have hb := hw2.1
  clear hw2
  simp only [List.drop_succ_cons, List.drop_zero, List.drop_nil]
  go_wp2
  go_ret
  exact ⟨rfl, hb⟩

set_option maxRecDepth 100000 in
set_option maxHeartbeats 4000000 in
theorem inverseB (m n : Nat) (A : Nat → Nat → Nat) (w : World) (hF : FHB w) (h : MatAt w 42 5 .u8 (.iface 81 (.agg #[])) m n n A) (hA : ∀ i j, A i j < 256) (hn0 : 0 < n) (hn : n ≤ 256) :
    Calls Try.prog 38 #[.pointer (some ⟨m, 0, none⟩)] w fun e w' => Below w.heap.size w w' ∧
      (if (redN gfOps n (besN A (idN gfOps) n) n).1 < n then e = .returned (.tuple #[.pointer none, .int .i64 71])
       else ∃ x, e = .returned (.tuple #[.pointer (some ⟨x, 0, none⟩), .int .i64 0]) ∧ MatAt w' 42 5 .u8 (.iface 81 (.agg #[])) x n n (fun i j => (redN gfOps n (besN A (idN gfOps) n) n).2 i (n + j))) := by
  have HM := Lib.hid h
  have HF := Lib.hid hF
  have HA := Lib.hid hA
  have lm := h.1
  have h0 := h.2.1
  clear h hF hA
  go_enter Try.func38, Try.ntmps38
  go_wp2_with fail
  refine (madeB 81 (.agg #[]) m _ h0).mono ?_; rintro e w' ⟨rfl, rfl⟩
  go_wp2_with fail
  refine (rowsB 81 (.agg #[]) m n n A _ HM.out).mono ?_; rintro e w' ⟨rfl, rfl⟩
  go_wp2_with fail
  -- the box of n
  have hb1 := (Below.refl w.heap.size w).alloc (Nat.le_refl _) (.cells #[.int .i64 (n : Int)] 3)
  have cn : (w.alloc (.cells #[.int .i64 (n : Int)] 3)).cell? ⟨w.heap.size, 0, none⟩ = some (.int .i64 (n : Int)) := by simp
  have fn : (w.alloc (.cells #[.int .i64 (n : Int)] 3)).frozen? ⟨w.heap.size, 0, none⟩ = false := by simp
  have ln : w.heap.size < (w.alloc (.cells #[.int .i64 (n : Int)] 3)).heap.size := by simp
  have HB := Lib.hid hb1
  clear hb1
  generalize w.alloc (.cells #[.int .i64 (n : Int)] 3) = W at *
  generalize hbn : w.heap.size = bn at *
  have HBN := Lib.hid hbn
  clear hbn
  have M1 := Lib.hid (show MatAt W 42 5 .u8 (.iface 81 (.agg #[])) m n n A from HM.out.below (by rw [HBN.out]; exact HB.out))
  have F1 := Lib.hid (show FHB W from HF.out.below (by rw [HBN.out]; exact HB.out))
  have lm1 := M1.out.1
  have h01 := M1.out.2.1
  have hd0 := (Below.refl W.heap.size W).drew
  go_region_held3 (fun w' => Below W.heap.size W w' ∧ w'.cell? ⟨bn, 0, none⟩ = some (.int .i64 (n : Int))) (first | assumption | exact ⟨hd0, cn⟩)
    (first | (go_at_call 82; refine (colsB 81 (.agg #[]) m n n A _ (M1.out.below hd0) hn0).mono ?_; rintro e w' ⟨rfl, rfl⟩))
  go_wp2
  rename_i hS _ _
  clear hS
  go_cut [5, 6] (fun s5 s6 wx => ∃ b5 x : Nat, s5 = .pointer (some ⟨b5, 0, none⟩) ∧ s6 = .int .i64 0 ∧ b5 < wx.heap.size ∧ wx.cell? ⟨b5, 0, none⟩ = some (.pointer (some ⟨x, 0, none⟩)) ∧ MatAt wx 42 5 .u8 (.iface 81 (.agg #[])) x n n (idN gfOps) ∧ Below W.heap.size W wx)
  case first =>
    have hd1 := hd0.drew
    go_region_held3 (fun w' => Below W.heap.size W w' ∧ w'.cell? ⟨m, 0, none⟩ = some (.iface 81 (.agg #[])) ∧ w'.cell? ⟨bn, 0, none⟩ = some (.int .i64 (n : Int)))
      (first | assumption | exact ⟨hd1, h01, cn⟩ | (refine ⟨?_, kcell ?_ lm1 h01, kcell ?_ ln cn⟩ <;> (go_grown; done)) | (trace_state; fail))
      (first | (go_at_call 32; refine (identB n _ (F1.out.below ?_) (by omega) hn).mono ?_; (first | exact hd1 | exact And.left (by assumption) | (go_grown; done)); rintro e w1 ⟨x, rfl, hx, hb1⟩; have hk1 : Below W.heap.size W w1 := bstep (by go_grown) hb1; have hk2 := hk1.size; obtain ⟨hc5, hf5⟩ := bcell hb1))
    all_goals go_wp2
    · go_meet
      refine ⟨_, x, rfl, rfl, by simp, by simp, hx.below (by go_grown), by go_grown⟩
    · have hbk : w1.heap[W.heap.size]? = some (.cells #[.pointer none] 29 (0, 0)) := by
        rw [hb1.block W.heap.size (by simp)]; exact Array.getElem?_push_size
      have hne : x ≠ W.heap.size := fun e => by
        have h1 := hx.2.1
        rw [e, hc5 _ _ (by simp)] at h1
        simp [go_sem] at h1
      have hx2 := hx.otherB (p := ⟨W.heap.size, 0, none⟩) hbk (by decide) (by decide) hne (.pointer (some ⟨x, 0, none⟩))
      go_meet
      refine ⟨_, x, rfl, rfl, ?_, ?_, hx2, by go_grown⟩
      · have := hb1.size; simp at this ⊢; omega
      · rw [World.cell?_setCell_same']; rw [hc5 _ _ (by simp)]; simp [go_sem]
  case rest =>
    obtain ⟨b5, x, rfl, rfl, lb5, cb5, hx, hbc⟩ := hcut
    have HX := Lib.hid hx
    have HBC := Lib.hid hbc
    have cm := kcell hbc lm1 h01
    have cnw := kcell hbc ln cn
    have MC := Lib.hid (M1.out.below hbc)
    have FC := Lib.hid (F1.out.below hbc)
    clear hbc hx
    go_wp2_with fail
    refine (besideB 81 (.agg #[]) m n n n A (idN gfOps) 97 #[.pointer (some ⟨b5, 0, none⟩)] _ MC.out hn hn0 hn hn0 hn (fun _ _ => rfl) ?c1).mono ?_
    case c1 => exact fun k w' hk hb => inv1B 81 (.agg #[]) b5 x n n (idN gfOps) k w' (HX.out.below hb) (kcell hb lb5 cb5) hk
    rintro e w2 ⟨rv, rfl, hb2, g, cc, hv, hrow, hinj⟩
    obtain ⟨rb, cap, rfl, -⟩ := hv.form hn0
    have HR := Lib.hid (show RowsAt w2 wc.heap.size 42 5 .u8 rb cap g cc n (n + n) (besN A (idN gfOps) n) from ⟨hv, hrow, hinj⟩)
    have H2 := Lib.hid hb2
    have c2m := kcell hb2 (bsz HBC.out lm1) cm
    have c2n := kcell hb2 (bsz HBC.out ln) cnw
    have l2m := bsz (bstep HBC.out hb2) lm1
    have l2n := bsz (bstep HBC.out hb2) ln
    have F2 := Lib.hid (FC.out.below hb2)
    have sz2 := hb2.size
    clear hv hrow hinj hb2
    go_wp2
    have b3 := (Below.refl w2.heap.size w2).alloc (Nat.le_refl _) (.cells #[.slice (some ⟨rb, 0, none⟩) n cap] 47)
    have k3 : (w2.alloc (.cells #[.slice (some ⟨rb, 0, none⟩) n cap] 47)).heap[w2.heap.size]? = some (.cells #[.slice (some ⟨rb, 0, none⟩) n cap] 47 (0, 0)) := Array.getElem?_push_size
    have c3b : (w2.alloc (.cells #[.slice (some ⟨rb, 0, none⟩) n cap] 47)).cell? ⟨w2.heap.size, 0, none⟩ = some (.slice (some ⟨rb, 0, none⟩) n cap) := by simp
    have l3 : w2.heap.size < (w2.alloc (.cells #[.slice (some ⟨rb, 0, none⟩) n cap] 47)).heap.size := by simp
    have c3m := kcell b3 l2m c2m
    have c3n := kcell b3 l2n c2n
    have R3 := Lib.hid (HR.out.below b3)
    have F3 := Lib.hid (F2.out.below b3)
    have B3 := Lib.hid b3
    clear b3 c2m c2n
    generalize w2.alloc (.cells #[.slice (some ⟨rb, 0, none⟩) n cap] 47) = W3 at *
    generalize hbr : w2.heap.size = br at *
    have hl3m : m < W3.heap.size := by omega
    have hl3n : bn < W3.heap.size := by omega
    have sz3 : wc.heap.size ≤ W3.heap.size := by omega
    have RD := Lib.hid (redN_lt (F := gfOps) (M := 256) (FLoB F3.out.lt) (n := n) (A := besN A (idN gfOps) n) (fun i j => by unfold besN; split; exact HA.out i j; unfold idN; split; exact FC.out.lt.on; exact FC.out.lt.zr))
    have BW := Lib.hid (H2.out.trans (B3.out.mono sz2))
    have lmc : m < wc.heap.size := bsz HBC.out lm1
    have lnc : bn < wc.heap.size := bsz HBC.out ln
    have hd3 : Below wc.heap.size W3 W3.drew := (Below.refl _ _).drew
    go_region_held3 (fun w' => Below wc.heap.size W3 w' ∧ w'.cell? ⟨m, 0, none⟩ = some (.iface 81 (.agg #[])) ∧ w'.cell? ⟨bn, 0, none⟩ = some (.int .i64 (n : Int)) ∧ w'.cell? ⟨br, 0, none⟩ = some (.slice (some ⟨rb, 0, none⟩) n cap))
      (first | assumption | exact ⟨hd3, c3m, c3n, c3b⟩ | (trace_state; fail))
      (first | (go_at_call 98; refine (reducedB wc.heap.size rb cap n (n + n) n g cc (besN A (idN gfOps) n) W3.drew sz3 (fun w' h => FC.out.below (BW.out.trans (hd3.trans h))) (RD.out 0) hn (by omega) (by omega) R3.out.drew).mono ?_; rintro e w4 ⟨rfl, hb4, g2, cc2, hR4⟩; have hk4 : Below wc.heap.size W3 w4 ∧ w4.cell? ⟨m, 0, none⟩ = some (.iface 81 (.agg #[])) ∧ w4.cell? ⟨bn, 0, none⟩ = some (.int .i64 (n : Int)) ∧ w4.cell? ⟨br, 0, none⟩ = some (.slice (some ⟨rb, 0, none⟩) n cap) := ⟨hd3.trans hb4.1, (hb4.1.cell (p := ⟨m, 0, none⟩) lmc).trans c3m, (hb4.1.cell (p := ⟨bn, 0, none⟩) lnc).trans c3n, cell_heap1 (hb4.2 br _ _ _ k3 (by decide) (by decide))⟩; have HR4 := Lib.hid hR4; have HB4 := Lib.hid hb4; clear hR4 hb4))
    have sz4 := HB4.out.1.size
    have l4 : br < w4.heap.size := Nat.lt_of_lt_of_le l3 sz4
    have F4 := Lib.hid (FC.out.below (BW.out.trans hk4.1))
    obtain ⟨hq4, c4m, c4n, c4b⟩ := hk4
    have Q4 := Lib.hid hq4
    clear c3m c3n c3b hq4
    have TB := Lib.hid (bstep (bstep (show Below w.heap.size w W by rw [HBN.out]; exact HB.out) HBC.out) (BW.out.trans Q4.out))
    have hd4 : Below w4.heap.size w4 w4.drew := (Below.refl _ _).drew
    have l4m : m < w4.heap.size := Nat.lt_trans l2m l4
    have l4n : bn < w4.heap.size := Nat.lt_trans l2n l4
    by_cases hlt : (redN gfOps n (besN A (idN gfOps) n) n).1 < n
    · go_wp2
      go_ret2
      exact ⟨TB.out, rfl⟩
    · go_wp2
      go_region_held3 (fun w' => Below w4.heap.size w4 w' ∧ w'.cell? ⟨m, 0, none⟩ = some (.iface 81 (.agg #[])) ∧ w'.cell? ⟨bn, 0, none⟩ = some (.int .i64 (n : Int)))
        (first | assumption | exact ⟨hd4, c4m, c4n⟩ | (trace_state; fail))
        (first | (go_at_call 77
                  refine (laidB 81 (.agg #[]) n n 99 #[.pointer (some ⟨br, 0, none⟩), .pointer (some ⟨bn, 0, none⟩)] (fun i j => (redN gfOps n (besN A (idN gfOps) n) n).2 i (n + j)) w4.drew hn hn (fun _ _ => rfl) ?c1).mono ?_
                  case c1 => exact fun i j w' hi hj hb => inv2B wc.heap.size br bn rb cap n (n + n) n g2 cc2 _ i j w' (HR4.out.drew.below hb) hn hn (by omega) (kcell hb l4 c4b) (kcell hb l4n c4n) hi (by omega)
                  rintro e w5 ⟨y, rfl, hy, hb5⟩
                  have hk5 : Below w4.heap.size w4 w5 ∧ w5.cell? ⟨m, 0, none⟩ = some (.iface 81 (.agg #[])) ∧ w5.cell? ⟨bn, 0, none⟩ = some (.int .i64 (n : Int)) := ⟨hd4.trans hb5, kcell hb5 l4m c4m, kcell hb5 l4n c4n⟩
                  have HY := Lib.hid hy
                  clear hy))
      go_wp2
      go_ret2
      exact ⟨bstep (show Below w.heap.size w w4 from TB.out) hk5.1, y, rfl, HY.out hn0⟩
end Go.Proofs.Ytkibophcodhcbaa
