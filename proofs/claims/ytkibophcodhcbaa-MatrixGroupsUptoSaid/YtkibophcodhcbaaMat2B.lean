/- The walks of matrix.dot, Mul and their closures, for elements of kind byte. -/
import Derived.Test.YtkibophcodhcbaaMat1B
namespace Go.Proofs.Ytkibophcodhcbaa
open Go.RowKit

set_option maxRecDepth 100000 in
set_option maxHeartbeats 2000000 in
theorem dotB (m n c : Nat) (A : Nat → Nat → Nat) (fc : Nat) (caps : Array Value) (G : Nat → Nat) (i : Nat) (w : World) (hF : FHB w)
   (h : MatAt w 42 5 .u8 (.iface 81 (.agg #[])) m n c A) (hA : ∀ i j, A i j < 256) (hG : ∀ k, G k < 256) (hi : i < n) (hc : c ≤ 256)
   (hcf : ∀ args w, (callFunc fc args).run Try.prog w = .ok (.enter fc args) w)
   (hclo : ∀ (k : Nat) (w' : World), k < c → Below w.heap.size w w' → Calls Try.prog fc (#[.int .i64 (k:Int)] ++ caps) w' fun e w'' => e = .returned (.int .u8 (G k : Nat)) ∧ Below w'.heap.size w' w'') :
    Calls Try.prog 85 #[.pointer (some ⟨m, 0, none⟩), .int .i64 i, .func (.func fc) #[] caps] w fun e w' => e = .returned (.int .u8 (dotN gfOps (A i) G c : Nat)) ∧ Below w.heap.size w w' := by
  obtain ⟨hm, h0, rb, cap, g, cc, h1, hR⟩ := h
  have a1 := hR.c1 hi
  have hrb := hR.lt
  have hgi := hR.ltg hi
  have HR := Lib.hid hR
  have HA := Lib.hid hA
  have HG := Lib.hid hG
  have HCL := Lib.hid hclo
  have HF := Lib.hid hF
  have hL := hF.lt
  have hzr := hL.zr
  have HLT := Lib.hid (fun k => dotN_lt (F := gfOps) (M := 256) hL.zr hL.ad hL.ml (hA i) hG k)
  clear hR hA hG hclo hF hL
  go_enter Try.func85, Try.ntmps85
  go_wp2_with (refine (zrB _ HF.out).mono ?_; rintro e w1 ⟨rfl, hb1⟩; obtain ⟨hc1, hf1⟩ := bcell hb1; clear hf1)
  go_loopw [7, 23] (fun s k wr => ∃ k' : Nat, k' ≤ c ∧ k = .int .i64 k' ∧ s = .int .u8 (dotN gfOps (A i) G k' : Nat) ∧ Below w.heap.size w wr) (fun _ k _ => c - (intOf k).toNat)
  case atStart => exact ⟨0, by omega, rfl, rfl, hb1⟩
  case round =>
    obtain ⟨k, hk, rfl, rfl, hbr⟩ := hrel
    clear hc1 hb1
    obtain ⟨hc2, hf2⟩ := bcell hbr
    by_cases hlt : k < c
    · have a3 := HR.out.c2 hi hlt
      have b0 : wr.cell? ⟨m, 0, none⟩ = _ := (hc2 m 0 hm).trans h0
      have b3 : wr.cell? ⟨g i, k, none⟩ = _ := (hc2 _ k hgi).trans a3
      have hd := HLT.out k
      have hai := HA.out i k
      have hgk := HG.out k
      have hml := HF.out.lt.ml _ _ hai hgk
      have hsucc := Lib.hid (show gfOps.add (dotN gfOps (A i) G k) (gfOps.mul (A i k) (G k)) = dotN gfOps (A i) G (k + 1) from rfl)
      clear hc2 hf2
      go_wp2
      go_region_held3 (fun w' => Below w.heap.size w w' ∧ w'.cell? ⟨m, 0, none⟩ = some (.iface 81 (.agg #[]))) (first | assumption | exact ⟨hbr.drew, b0⟩ | (have hk2 := keepN (by assumption) hb1; exact ⟨hk2, kcell hk2 hm h0⟩))
       (first
        | (go_at_call 155; refine (mlB _ _ _ (HF.out.below ?_) hai hgk).mono ?_; (first | exact And.left (by assumption) | exact hbr.drew); rintro e w1 ⟨rfl, hb1⟩)
        | (go_at_call 153; refine (adB _ _ _ (HF.out.below ?_) hd hml).mono ?_; (first | exact And.left (by assumption) | exact hbr.drew); rintro e w1 ⟨rfl, hb1⟩)
        | (refine (HCL.out _ _ hlt (And.left (by assumption))).mono ?_; rintro e w1 ⟨rfl, hb1⟩))
      all_goals go_wp2
      all_goals go_roundw
      case rel => exact ⟨k + 1, by omega, by go_num, by rw [hsucc.out], And.left (by assumption)⟩
      case measure => simp [intOf]; omega
    · obtain rfl : k = c := by omega
      go_wp2
      go_ret
      exact ⟨rfl, hbr⟩

theorem mul11B (ft : TypeId) (fx : Value) (bo bj m n c j : Nat) (A : Nat → Nat → Nat) (k : Nat) (w : World) (h : MatAt w 42 5 .u8 (.iface ft fx) m n c A)
    (co : w.cell? ⟨bo, 0, none⟩ = some (.pointer (some ⟨m, 0, none⟩))) (cj : w.cell? ⟨bj, 0, none⟩ = some (.int .i64 j)) (hk : k < n) (hj : j < c) :
    Calls Try.prog 86 #[.int .i64 k, .pointer (some ⟨bo, 0, none⟩), .pointer (some ⟨bj, 0, none⟩)] w fun e w' => e = .returned (.int .u8 (A k j : Nat)) ∧ Below w.heap.size w w' := by
  obtain ⟨hm, h0, rb, cap, g, cc, h1, hR⟩ := h
  have a1 := hR.c1 hk
  have a2 := hR.c2 hk hj
  go_enter Try.func86, Try.ntmps86
  go_wp2
  go_quiet (fail)
  go_wp2
  go_ret
  exact ⟨rfl, bdrewN _ _⟩

set_option maxRecDepth 100000 in
theorem mul1B (bm bo m o n c d : Nat) (A B : Nat → Nat → Nat) (i j : Nat) (w : World) (hF : FHB w)
    (h : MatAt w 42 5 .u8 (.iface 81 (.agg #[])) m n c A) (ho : MatAt w 42 5 .u8 (.iface 81 (.agg #[])) o c d B) (hA : ∀ i j, A i j < 256) (hB : ∀ i j, B i j < 256)
    (hc : c ≤ 256) (lm : bm < w.heap.size) (lo : bo < w.heap.size) (cm : w.cell? ⟨bm, 0, none⟩ = some (.pointer (some ⟨m, 0, none⟩))) (co : w.cell? ⟨bo, 0, none⟩ = some (.pointer (some ⟨o, 0, none⟩))) (hi : i < n) (hj : j < d) :
    Calls Try.prog 84 #[.int .i64 i, .int .i64 j, .pointer (some ⟨bm, 0, none⟩), .pointer (some ⟨bo, 0, none⟩)] w fun e w' => e = .returned (.int .u8 (mulN gfOps c A B i j : Nat)) ∧ Below w.heap.size w w' := by
  have HB := Lib.hid ((Below.refl w.heap.size w).alloc (Nat.le_refl _) (.cells #[.int .i64 (j : Int)] 3))
  have HA := Lib.hid hA
  have HB2 := Lib.hid hB
  clear hA hB
  go_enter Try.func84, Try.ntmps84
  go_wp2_with fail
  refine (dotB m n c A 86 #[.pointer (some ⟨bo, 0, none⟩), .pointer (some ⟨w.heap.size, 0, none⟩)] (fun k => B k j) i _ (hF.below HB.out) (h.below HB.out) HA.out (fun k => HB2.out k j) hi hc
    (fun args w => Try.call86 args w) (fun k w' hk hb => mul11B 81 (.agg #[]) bo w.heap.size o c d j B k w' (ho.below (bstep HB.out hb)) (kcell (bstep HB.out hb) lo co) ?c1 hk hj)).mono ?_
  case c1 => rw [hb.cell (p := ⟨w.heap.size, 0, none⟩) (by simp)]; simp
  rintro e w1 ⟨rfl, hb1⟩
  go_wp2
  go_ret
  exact ⟨rfl, bstep HB.out hb1⟩

set_option maxRecDepth 100000 in
set_option maxHeartbeats 1000000 in
theorem mulB (m o n c d : Nat) (A B : Nat → Nat → Nat) (w : World) (hF : FHB w)
    (h : MatAt w 42 5 .u8 (.iface 81 (.agg #[])) m n c A) (ho : MatAt w 42 5 .u8 (.iface 81 (.agg #[])) o c d B) (hA : ∀ i j, A i j < 256) (hB : ∀ i j, B i j < 256)
    (hn0 : 0 < n) (hc0 : 0 < c) (hn : n ≤ 256) (hc : c ≤ 256) (hd : d ≤ 256) :
    Calls Try.prog 34 #[.pointer (some ⟨m, 0, none⟩), .pointer (some ⟨o, 0, none⟩)] w fun e w' => ∃ x, e = .returned (.tuple #[.pointer (some ⟨x, 0, none⟩), .int .i64 0]) ∧ MatAt w' 42 5 .u8 (.iface 81 (.agg #[])) x n d (mulN gfOps c A B) ∧ Below w.heap.size w w' := by
  have HA := Lib.hid hA
  have HB2 := Lib.hid hB
  have HM := Lib.hid h
  have HO := Lib.hid ho
  have HF := Lib.hid hF
  have lm := h.1
  have h0 := h.2.1
  have h0o := ho.2.1
  clear hA hB h ho hF
  have hb0 := ((Below.refl w.heap.size w).alloc (Nat.le_refl _) (.cells #[.pointer (some ⟨m, 0, none⟩)] 29)).alloc (by simp) (.cells #[.pointer (some ⟨o, 0, none⟩)] 29)
  have HB := Lib.hid hb0
  clear hb0
  go_enter Try.func34, Try.ntmps34
  go_wp2_with fail
  refine (madeB 81 (.agg #[]) m _ (kcell HB.out lm h0)).mono ?_; rintro e w' ⟨rfl, rfl⟩
  go_wp2_with fail
  refine (madeB 81 (.agg #[]) o _ (kcell HB.out HO.out.1 h0o)).mono ?_; rintro e w' ⟨rfl, rfl⟩
  go_wp2_with fail
  have hW := Lib.hid (show ∃ W : World, W = (w.alloc (.cells #[.pointer (some ⟨m, 0, none⟩)] 29)).alloc (.cells #[.pointer (some ⟨o, 0, none⟩)] 29) from ⟨_, rfl⟩)
  have c1 : ((w.alloc (.cells #[.pointer (some ⟨m, 0, none⟩)] 29)).alloc (.cells #[.pointer (some ⟨o, 0, none⟩)] 29)).cell? ⟨w.heap.size, 0, none⟩ = some (.pointer (some ⟨m, 0, none⟩)) := by simp [go_sem]
  have c2 : ((w.alloc (.cells #[.pointer (some ⟨m, 0, none⟩)] 29)).alloc (.cells #[.pointer (some ⟨o, 0, none⟩)] 29)).cell? ⟨w.heap.size + 1, 0, none⟩ = some (.pointer (some ⟨o, 0, none⟩)) := by simp [go_sem]
  have l1 : w.heap.size < ((w.alloc (.cells #[.pointer (some ⟨m, 0, none⟩)] 29)).alloc (.cells #[.pointer (some ⟨o, 0, none⟩)] 29)).heap.size := by simp; omega
  have l2 : w.heap.size + 1 < ((w.alloc (.cells #[.pointer (some ⟨m, 0, none⟩)] 29)).alloc (.cells #[.pointer (some ⟨o, 0, none⟩)] 29)).heap.size := by simp
  have M1 := Lib.hid (HM.out.below HB.out)
  have O1 := Lib.hid (HO.out.below HB.out)
  have F1 := Lib.hid (HF.out.below HB.out)
  have lmm := M1.out.1
  have h01 := M1.out.2.1
  generalize (w.alloc (.cells #[.pointer (some ⟨m, 0, none⟩)] 29)).alloc (.cells #[.pointer (some ⟨o, 0, none⟩)] 29) = W at *
  clear hW
  have hd0 := (Below.refl W.heap.size W).drew
  go_region_held3 (fun w' => Below W.heap.size W w' ∧ w'.cell? ⟨w.heap.size, 0, none⟩ = some (.pointer (some ⟨m, 0, none⟩)) ∧ w'.cell? ⟨w.heap.size + 1, 0, none⟩ = some (.pointer (some ⟨o, 0, none⟩)))
    (first | assumption | exact ⟨hd0, c1, c2⟩)
    (first
      | (go_at_call 82; refine (colsB 81 (.agg #[]) m n c A _ (M1.out.below hd0) hn0).mono ?_; rintro e w' ⟨rfl, rfl⟩)
      | (go_at_call 83; refine (rowsB 81 (.agg #[]) o c d B _ (O1.out.below hd0)).mono ?_; rintro e w' ⟨rfl, rfl⟩))
  go_wp2
  rename_i hS _ _
  clear hS
  have hd1 := hd0.drew
  go_region_held3 (fun w' => Below W.heap.size W w' ∧ w'.cell? ⟨w.heap.size, 0, none⟩ = some (.pointer (some ⟨m, 0, none⟩)) ∧ w'.cell? ⟨w.heap.size + 1, 0, none⟩ = some (.pointer (some ⟨o, 0, none⟩)) ∧ w'.cell? ⟨m, 0, none⟩ = some (.iface 81 (.agg #[])))
    (first | assumption | exact ⟨hd1, c1, c2, h01⟩ | (have hk := keepN (by assumption) hb1; exact ⟨hk, kcell hk l1 c1, kcell hk l2 c2, kcell hk lmm h01⟩))
    (first
      | (go_at_call 82; refine (colsB 81 (.agg #[]) o c d B _ (O1.out.below hd1) hc0).mono ?_; rintro e w' ⟨rfl, rfl⟩)
      | (go_at_call 83; refine (rowsB 81 (.agg #[]) m n c A _ (M1.out.below hd1)).mono ?_; rintro e w' ⟨rfl, rfl⟩)
      | (go_at_call 77
         refine (laidB 81 (.agg #[]) n d 84 #[.pointer (some ⟨w.heap.size, 0, none⟩), .pointer (some ⟨w.heap.size + 1, 0, none⟩)] (mulN gfOps c A B) _ hn hd (fun args w => Try.call84 args w)
           (fun i j w' hi hj hb => mul1B w.heap.size (w.heap.size + 1) m o n c d A B i j w' (F1.out.below (bstep hd1 hb)) (M1.out.below (bstep hd1 hb)) (O1.out.below (bstep hd1 hb)) HA.out HB2.out hc (bsz (bstep hd1 hb) l1) (bsz (bstep hd1 hb) l2) (kcell (bstep hd1 hb) l1 c1) (kcell (bstep hd1 hb) l2 c2) hi hj)).mono ?_
         rintro e w1 ⟨x, rfl, hmm, hb1⟩))
  all_goals go_wp2
  all_goals go_ret2
  all_goals exact ⟨x, rfl, hmm hn0, bstep HB.out (And.left (by assumption))⟩
end Go.Proofs.Ytkibophcodhcbaa
