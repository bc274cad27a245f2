/- The walks of slices.Equal, slices.EqualFunc at rows, and of matrix.Same, for elements of kind byte. -/
import Derived.Test.YtkibophcodhcbaaMat1B
namespace Go.Proofs.Ytkibophcodhcbaa
open Go.RowKit

theorem eqvB (a b : Nat) : (((a : Int) != (b : Int)) = true ↔ a ≠ b) := by rw [bne_iff_ne]; omega

theorem equalB (g g' c c' cap cap' : Nat) (f f' : Nat → Nat) (w : World) (hl : c ≤ 65536) (hl' : c' ≤ 65536) (lg : 0 < c → g < w.heap.size) (lg' : 0 < c' → g' < w.heap.size)
    (h : ∀ j, j < c → w.cell? ⟨g, j, none⟩ = some (.int .u8 (f j : Nat))) (h' : ∀ j, j < c' → w.cell? ⟨g', j, none⟩ = some (.int .u8 (f' j : Nat))) :
    Calls Try.prog 50 #[.slice (some ⟨g, 0, none⟩) c cap, .slice (some ⟨g', 0, none⟩) c' cap'] w fun e w' => e = .returned (.bool (c == c' && eqN f f' c)) ∧ Below w.heap.size w w' := by
  by_cases hcc : c = c'
  · subst hcc
    have HQ := Lib.hid (show (c == c && eqN f f' c) = eqN f f' c by simp)
    rw [HQ.out]
    have H := Lib.hid h
    have H' := Lib.hid h'
    have L := Lib.hid lg
    have L' := Lib.hid lg'
    clear h h' lg lg'
    go_enter Try.func50, Try.ntmps50
    go_wp2
    go_loopw [13] (fun k wr => ∃ t : Nat, t ≤ c ∧ k = .int .i64 t ∧ eqN f f' t = true ∧ Below w.heap.size w wr) (fun k _ => c - (intOf k).toNat)
    case atStart => exact ⟨0, by omega, rfl, rfl, Below.refl _ _⟩
    case round =>
      obtain ⟨t, ht, rfl, he, hb⟩ := hrel
      have HE := Lib.hid he
      clear he
      by_cases hlt : t < c
      · have c1 := kcell hb (L.out (by omega)) (H.out t hlt)
        have c2 := kcell hb (L'.out (by omega)) (H'.out t hlt)
        by_cases hf : f t = f' t
        · have HF := Lib.hid (show eqN f f' (t + 1) = true by simp [eqN, HE.out, hf])
          have ht2 : ((f t : Int) != (f' t : Int)) = false := by rw [hf]; simp
          clear hf
          go_wp2
          go_quiet (fail)
          go_wp2
          go_roundw
          case rel => exact ⟨t + 1, by omega, by go_num, HF.out, hb.trans ((bdrewN _ _))⟩
          case measure => simp [intOf]; omega
        · have HF := Lib.hid (eqN_no f f' hf hlt)
          have ht2 : ((f t : Int) != (f' t : Int)) = true := (eqvB _ _).2 hf
          clear hf
          go_wp2
          go_quiet (fail)
          go_wp2
          go_ret
          exact ⟨by rw [HF.out]; rfl, hb.trans (bdrewN _ _)⟩
      · obtain rfl : t = c := by omega
        go_wp2
        go_ret
        exact ⟨by rw [HE.out]; rfl, hb⟩
  · have HQ := Lib.hid (show (c == c' && eqN f f' c) = false by simp [hcc])
    rw [HQ.out]
    have hne : ((c : Int) != (c' : Int)) = true := by rw [bne_iff_ne]; omega
    clear hcc h h'
    go_enter Try.func50, Try.ntmps50
    go_wp2
    go_ret
    exact ⟨rfl, Below.refl _ _⟩

theorem equalFB (rb rb' n c c' cap cap' : Nat) (g cc g' cc' : Nat → Nat) (A A' : Nat → Nat → Nat) (w : World) (hn : n ≤ 256) (hc : c ≤ 256) (hc' : c' ≤ 256)
    (h : RowsAt w 0 42 5 .u8 rb cap g cc n c A) (h' : RowsAt w 0 42 5 .u8 rb' cap' g' cc' n c' A') :
    Calls Try.prog 93 #[.slice (some ⟨rb, 0, none⟩) n cap, .slice (some ⟨rb', 0, none⟩) n cap', .func (.func 50) #[] #[]] w fun e w' => e = .returned (.bool (eqM A A' c c' n)) ∧ Below w.heap.size w w' := by
  have H := Lib.hid h
  have H' := Lib.hid h'
  clear h h'
  go_enter Try.func93, Try.ntmps93
  go_wp2
  go_loopw [17] (fun k wr => ∃ t : Nat, t ≤ n ∧ k = .int .i64 t ∧ eqM A A' c c' t = true ∧ Below w.heap.size w wr) (fun k _ => n - (intOf k).toNat)
  case atStart => exact ⟨0, by omega, rfl, rfl, Below.refl _ _⟩
  case round =>
    obtain ⟨t, ht, rfl, he, hb⟩ := hrel
    have HE := Lib.hid he
    clear he
    by_cases hlt : t < n
    · have c1 := kcell hb H.out.lt (H.out.c1 hlt)
      have c2 := kcell hb H'.out.lt (H'.out.c1 hlt)
      have HC := Lib.hid (equalB (g t) (g' t) c c' (cc t) (cc' t) (A t) (A' t) wr (by omega) (by omega) (fun _ => bsz hb (H.out.ltg hlt)) (fun _ => bsz hb (H'.out.ltg hlt)) (fun j hj => kcell hb (H.out.ltg hlt) (H.out.c2 hlt hj)) (fun j hj => kcell hb (H'.out.ltg hlt) (H'.out.c2 hlt hj)))
      cases hq : (c == c' && eqN (A t) (A' t) c) with
      | true =>
        have HF := Lib.hid (show eqM A A' c c' (t + 1) = true by simp only [eqM, HE.out, hq, Bool.and_self])
        have HC2 := HC.out
        rw [hq] at HC2
        have HC3 := Lib.hid HC2
        clear hq HC HC2
        go_wp2_with fail
        refine HC3.out.mono ?_; rintro e w1 ⟨rfl, hb1⟩
        go_wp2
        go_roundw
        case rel => exact ⟨t + 1, by omega, by go_num, HF.out, bstep hb hb1⟩
        case measure => simp [intOf]; omega
      | false =>
        have HF := Lib.hid (eqM_no A A' hq n hlt)
        have HC2 := HC.out
        rw [hq] at HC2
        have HC3 := Lib.hid HC2
        clear hq HC HC2
        go_wp2_with fail
        refine HC3.out.mono ?_; rintro e w1 ⟨rfl, hb1⟩
        go_wp2
        go_ret
        exact ⟨by rw [HF.out]; rfl, bstep hb hb1⟩
    · obtain rfl : t = n := by omega
      go_wp2
      go_ret
      exact ⟨by rw [HE.out]; rfl, hb⟩

set_option maxRecDepth 100000 in
set_option maxHeartbeats 1000000 in
theorem sameB (ft : TypeId) (fx : Value) (m o n c c' : Nat) (A A' : Nat → Nat → Nat) (w : World) (hn : n ≤ 256) (hc : c ≤ 256) (hc' : c' ≤ 256)
    (h : MatAt w 42 5 .u8 (.iface ft fx) m n c A) (h' : MatAt w 42 5 .u8 (.iface ft fx) o n c' A') :
    Calls Try.prog 36 #[.pointer (some ⟨m, 0, none⟩), .pointer (some ⟨o, 0, none⟩)] w fun e w' => e = .returned (.bool (eqM A A' c c' n)) ∧ Below w.heap.size w w' := by
  obtain ⟨lm, h0, rb, cap, g, cc, h1, hR⟩ := h
  obtain ⟨lm', h0', rb', cap', g', cc', h1', hR'⟩ := h'
  have H := Lib.hid hR
  have H' := Lib.hid hR'
  clear hR hR'
  have hd := (Below.refl w.heap.size w).drew
  go_enter Try.func36, Try.ntmps36
  go_wp2
  go_region_held3 (fun w' => Below w.heap.size w w' ∧ w'.cell? ⟨m, 1, none⟩ = some (.slice (some ⟨rb, 0, none⟩) n cap) ∧ w'.cell? ⟨o, 1, none⟩ = some (.slice (some ⟨rb', 0, none⟩) n cap'))
    (first | assumption | exact ⟨hd, h1, h1'⟩ | (have hk := keepN (by assumption) hb1; exact ⟨hk, kcell hk lm h1, kcell hk lm' h1'⟩))
    (first
      | (go_at_call 81; refine (madeB ft fx _ _ ?_).mono ?_; (first | exact kcell hd lm h0 | exact kcell hd lm' h0'); rintro e w' ⟨rfl, rfl⟩)
      | (go_at_call 93; refine (equalFB rb rb' n c c' cap cap' g cc g' cc' A A' _ hn hc hc' (H.out.below hd) (H'.out.below hd)).mono ?_; rintro e w1 ⟨rfl, hb1⟩))
  all_goals go_wp2
  all_goals go_ret
  all_goals exact ⟨rfl, And.left (by assumption)⟩
end Go.Proofs.Ytkibophcodhcbaa
