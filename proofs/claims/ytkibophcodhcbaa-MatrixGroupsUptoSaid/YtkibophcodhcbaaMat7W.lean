/- The walk of matrix.reduced, for elements of kind uint32. -/
import Derived.Test.YtkibophcodhcbaaMat6W
import Derived.BigRegion
import Derived.ChangeAlike
import Derived.Deep.LoopGhost
import Derived.WalkMore
namespace Go.Proofs.Ytkibophcodhcbaa
open Go.RowKit

theorem FLoW (pb p : Nat) (h : FLW pb p) : OpsLt (mdOps p) 4294967296 := ⟨h.sb, h.ml, h.iv⟩
/-- two rows changed round -/
theorem RowsAt.swapW {w : World} {B rb cap n c r i : Nat} {g cc : Nat → Nat} {A : Nat → Nat → Nat} (h : RowsAt w B 23 22 .u32 rb cap g cc n c A) (hr : r < n) (hi : i < n) :
    RowsAt ((w.setCell ⟨rb, r, none⟩ (.slice (some ⟨g i, 0, none⟩) c (cc i))).setCell ⟨rb, i, none⟩ (.slice (some ⟨g r, 0, none⟩) c (cc r))) B 23 22 .u32 rb cap
      (fun x => if x = r then g i else if x = i then g r else g x) (fun x => if x = r then cc i else if x = i then cc r else cc x) n c (swN A r i) := by
  refine ⟨?_, fun x hx => ?_, fun x y hx hy hxy => ?_⟩
  · have h1 := (h.own.stored r (.slice (some ⟨g i, 0, none⟩) c (cc i))).1
    rw [Rg_set] at h1
    have h2 := (h1.stored i (.slice (some ⟨g r, 0, none⟩) c (cc r))).1
    rw [Rg_set] at h2
    rw [Rg_congr (g := fun k => if k = i then .slice (some ⟨g r, 0, none⟩) c (cc r) else if k = r then .slice (some ⟨g i, 0, none⟩) c (cc i) else .slice (some ⟨g k, 0, none⟩) c (cc k))]
    · exact h2
    · intro k _
      by_cases e1 : k = r <;> by_cases e2 : k = i
      · subst e1; subst e2; simp
      · rw [if_pos e1, if_pos e1, if_neg e2, if_pos e1]
      · rw [if_neg e1, if_pos e2, if_neg e1, if_pos e2, if_pos e2]
      · rw [if_neg e1, if_neg e2, if_neg e1, if_neg e2, if_neg e2, if_neg e1]
  · have key : ∀ z, z < n → (∀ j, A z j = swN A r i x j) → ((w.setCell ⟨rb, r, none⟩ (.slice (some ⟨g i, 0, none⟩) c (cc i))).setCell ⟨rb, i, none⟩ (.slice (some ⟨g r, 0, none⟩) c (cc r))).ownsRow B 22 1 (.slice (some ⟨g z, 0, none⟩) c (cc z)) c (Rg c fun j => .int .u32 (swN A r i x j : Nat)) := fun z hz he => by
      have hne : g z ≠ rb := fun e => own_ne h.own (h.row z hz) (by decide) e.symm
      have := own_set (own_set (h.row z hz) (p := ⟨rb, r, none⟩) (by simp [Value.ownBlock]; exact hne) (.slice (some ⟨g i, 0, none⟩) c (cc i))) (p := ⟨rb, i, none⟩) (by simp [Value.ownBlock]; exact hne) (.slice (some ⟨g r, 0, none⟩) c (cc r))
      rw [Rg_congr (g := fun j => .int .u32 (A z j : Nat)) (fun j _ => by rw [he j])]
      exact this
    by_cases e1 : x = r
    · rw [if_pos e1, if_pos e1]; exact key i hi fun j => by unfold swN; rw [if_pos e1]
    · rw [if_neg e1, if_neg e1]
      by_cases e2 : x = i
      · rw [if_pos e2, if_pos e2]; exact key r hr fun j => by unfold swN; rw [if_neg e1, if_pos e2]
      · rw [if_neg e2, if_neg e2]; exact key x hx fun j => by unfold swN; rw [if_neg e1, if_neg e2]
  · have hj := h.inj
    by_cases e1 : x = r <;> by_cases e2 : y = r
    · omega
    · rw [if_pos e1, if_neg e2] at hxy
      by_cases e3 : y = i
      · rw [if_pos e3] at hxy; have := hj i r hi hr hxy; omega
      · rw [if_neg e3] at hxy; have := hj i y hi hy hxy; omega
    · rw [if_neg e1, if_pos e2] at hxy
      by_cases e3 : x = i
      · rw [if_pos e3] at hxy; have := hj r i hr hi hxy; omega
      · rw [if_neg e3] at hxy; have := hj x i hx hi hxy; omega
    · rw [if_neg e1, if_neg e2] at hxy
      by_cases e3 : x = i <;> by_cases e4 : y = i
      · omega
      · rw [if_pos e3, if_neg e4] at hxy; have := hj r y hr hy hxy; omega
      · rw [if_neg e3, if_pos e4] at hxy; have := hj x r hx hr hxy; omega
      · rw [if_neg e3, if_neg e4] at hxy; exact hj x y hx hy hxy

set_option maxRecDepth 100000 in
set_option maxHeartbeats 4000000 in
theorem reducedW (pb p : Nat) (B rb cap n c d : Nat) (g cc : Nat → Nat) (A : Nat → Nat → Nat) (w : World) (hB : B ≤ w.heap.size) (hF : ∀ w', Below B w w' → FHW pb p w') (hA : ∀ i j, A i j < 4294967296)
    (hn : n ≤ 256) (hc : c ≤ 1024) (hd : d ≤ c) (h : RowsAt w B 23 22 .u32 rb cap g cc n c A) :
    Calls Try.prog 102 #[.iface 25 (.pointer (some ⟨pb, 0, none⟩)), .slice (some ⟨rb, 0, none⟩) n cap, .int .i64 d] w fun e w' => e = .returned (.int .i64 ((redN (mdOps p) n A d).1 : Nat)) ∧ BtW B w w' ∧ ∃ g' cc', RowsAt w' B 23 22 .u32 rb cap g' cc' n c (redN (mdOps p) n A d).2 := by
  have HF := Lib.hid hF
  have HA := Lib.hid (redN_lt (FLoW pb p (hF w (Below.refl _ _)).lt) (n := n) hA)
  have H := Lib.hid h
  clear hF hA h
  go_enter Try.func102, Try.ntmps102
  go_wp2
  go_step3
  go_wp2
  go_step3
  go_wp2
  go_loopg [7, 14] d (fun gh r q wr => ∃ k : Nat, k + gh = d ∧ q = .int .i64 k ∧ r = .int .i64 ((redN (mdOps p) n A k).1 : Nat) ∧ BtW B w wr ∧ ∃ g' cc', RowsAt wr B 23 22 .u32 rb cap g' cc' n c (redN (mdOps p) n A k).2)
  case atStart => exact ⟨0, by omega, rfl, rfl, BtW.refl _ _, g, cc, H.out⟩
  case round =>
    obtain ⟨k, hk, rfl, rfl, hb, g', cc', hR⟩ := hrel
    obtain ⟨go, hgo⟩ : ∃ go, go = gk := ⟨_, rfl⟩
    by_cases hlt : k < d
    · have hrk := (redN_rank (F := (mdOps p)) (n := n) (A := A) k).1
      have HL := Lib.hid (HA.out k)
      have HS := Lib.hid (show redN (mdOps p) n A (k + 1) = redS (mdOps p) n k (redN (mdOps p) n A k) from rfl)
      have HR := Lib.hid hR
      clear hR
      generalize redN (mdOps p) n A k = s at *
      obtain ⟨r, C⟩ := s
      dsimp only at *
      go_wp2
      go_loopg [7, 9] (n - r) (fun g2 rr i w2 => ∃ t : Nat, t + g2 = n ∧ r ≤ t ∧ i = .int .i64 t ∧ rr = .int .i64 r ∧ (∀ x, r ≤ x → x < t → ((mdOps p)).has (C x k) = false) ∧ BtW B w w2 ∧ RowsAt w2 B 23 22 .u32 rb cap g' cc' n c C)
      case atStart => exact ⟨r, by omega, by omega, rfl, rfl, fun x h1 h2 => absurd h2 (by omega), hb, HR.out⟩
      case round =>
        obtain ⟨t, ht, hrt, rfl, rfl, hno, hb2, hR2⟩ := hrel
        have HN := Lib.hid hno
        have HR2 := Lib.hid hR2
        clear hno hR2
        by_cases hlt2 : t < n
        · have d1 := HR2.out.c1 hlt2
          have d2 := HR2.out.c2 hlt2 (show k < c by omega)
          have hkc : k < c := by omega
          have lrb := HR2.out.lt
          have lgt := HR2.out.ltg hlt2
          have HFr := Lib.hid (HF.out _ hb2.1)
          have nI := naInW pb
          have mI := meInW pb
          have RGN : ∀ b : Bool, ((mdOps p)).has (C t k) = b → True := fun _ _ => trivial
          cases hh : ((mdOps p)).has (C t k) with
          | false =>
            have hz : ∀ x, r ≤ x → x < t + 1 → ((mdOps p)).has (C x k) = false := fun x h1 h2 => by
              by_cases e : x = t
              · subst e; exact hh
              · exact HN.out x h1 (by omega)
            have HZ := Lib.hid hz
            have HH := Lib.hid hh
            clear hz hh RGN
            go_wp2
            refine wp_region_rg 17 (fun w' => Below wr.heap.size wr w' ∧ w'.cell? ⟨rb, t, none⟩ = some (.slice (some ⟨g' t, 0, none⟩) c (cc' t)) ∧ w'.cell? ⟨g' t, k, none⟩ = some (.int .u32 (C t k : Nat)))
              (by kernel_rfl) (by kernel_rfl) ⟨(Below.refl _ _).drew, d1, d2⟩ ?_
            iterate 11
              refine' RG.plain rfl (by rfl) (fun w1 hw1 => ?_) ?_
              rotate_left
              · (try dsimp only at hw1)
                go_simp
                first | done | with_reducible rfl
              simp only [Act.put, List.setIfInBounds_toArray, List.set_cons_zero, List.set_cons_succ]
            refine' RG.call rfl (by rfl) (fun w1 hw1 => ?_) (fun w1 hw1 => ?_) ?_
            rotate_left 3
            · (try dsimp only at hw1)
              go_simp
              exact ⟨rfl, rfl⟩
            · refine (ivW pb p _ w1 (HFr.out.below hw1.1) (HL.out t k)).mono ?_
              rintro e w2 ⟨rfl, hb3⟩
              have hk3 := bstep hw1.1 hb3
              rw [HH.out]
              exact ⟨rfl, hk3, kcell hk3 lrb d1, kcell hk3 lgt d2⟩
            simp only [Act.put, List.setIfInBounds_toArray, List.set_cons_zero, List.set_cons_succ]
            iterate 5
              refine' RG.plain rfl (by rfl) (fun w1 hw1 => ?_) ?_
              rotate_left
              · (try dsimp only at hw1)
                go_simp
                first | done | with_reducible rfl
              simp only [Act.put, List.setIfInBounds_toArray, List.set_cons_zero, List.set_cons_succ]
            intro w2 hw2
            have HR3 := Lib.hid (HR2.out.below hw2.1)
            have hb4 : BtW B w w2 := hb2.step (Nat.le_trans hB hb2.1.size) hw2.1
            clear hw2
            simp only [List.drop_succ_cons, List.drop_zero, List.drop_nil]
            go_wp2
            go_roundg (gk - 1)
            case measure => omega
            case rel => exact ⟨t + 1, by omega, by omega, by go_num, rfl, HZ.out, hb4, HR3.out⟩
          | true =>
            have hz := pvt_some (F := (mdOps p)) (A := C) (q := k) hh (n - r) r hrt (by omega) HN.out
            have HZ := Lib.hid (show redN (mdOps p) n A (k + 1) = (r + 1, clN (mdOps p) (scN (mdOps p) (swN C r t) r ((mdOps p).inv (C t k))) r k) by
              rw [HS.out]; unfold redS; dsimp only; rw [hz])
            have HH := Lib.hid hh
            clear hz hh RGN
            go_wp2
            refine wp_region_rg 17 (fun w' => Below wr.heap.size wr w' ∧ w'.cell? ⟨rb, t, none⟩ = some (.slice (some ⟨g' t, 0, none⟩) c (cc' t)) ∧ w'.cell? ⟨g' t, k, none⟩ = some (.int .u32 (C t k : Nat)))
              (by kernel_rfl) (by kernel_rfl) ⟨(Below.refl _ _).drew, d1, d2⟩ ?_
            iterate 11
              refine' RG.plain rfl (by rfl) (fun w1 hw1 => ?_) ?_
              rotate_left
              · (try dsimp only at hw1)
                go_simp
                first | done | with_reducible rfl
              simp only [Act.put, List.setIfInBounds_toArray, List.set_cons_zero, List.set_cons_succ]
            refine' RG.call rfl (by rfl) (fun w1 hw1 => ?_) (fun w1 hw1 => ?_) ?_
            rotate_left 3
            · (try dsimp only at hw1)
              go_simp
              exact ⟨rfl, rfl⟩
            · refine (ivW pb p _ w1 (HFr.out.below hw1.1) (HL.out t k)).mono ?_
              rintro e w2 ⟨rfl, hb3⟩
              have hk3 := bstep hw1.1 hb3
              rw [HH.out]
              exact ⟨rfl, hk3, kcell hk3 lrb d1, kcell hk3 lgt d2⟩
            simp only [Act.put, List.setIfInBounds_toArray, List.set_cons_zero, List.set_cons_succ]
            iterate 5
              refine' RG.plain rfl (by rfl) (fun w1 hw1 => ?_) ?_
              rotate_left
              · (try dsimp only at hw1)
                go_simp
                first | done | with_reducible rfl
              simp only [Act.put, List.setIfInBounds_toArray, List.set_cons_zero, List.set_cons_succ]
            intro w2 hw2
            have HR3 := Lib.hid (HR2.out.below hw2.1)
            have hb4 : BtW B w w2 := hb2.step (Nat.le_trans hB hb2.1.size) hw2.1
            clear hw2
            simp only [List.drop_succ_cons, List.drop_zero, List.drop_nil]
            have hrn : r < n := by omega
            have f1 := HR3.out.c1 hlt2
            have f2 := HR3.out.c1 hrn
            have f3 := HR3.out.own.frozenAt t
            have f4 := HR3.out.own.frozenAt r
            have hy' := HR3.out.first hrn hlt2
            go_wp2
            go_region
            have HR4 := Lib.hid (HR3.out.swapW hrn hlt2).drew
            have hb5 : BtW B w (((w2.setCell ⟨rb, r, none⟩ (.slice (some ⟨g' t, 0, none⟩) c (cc' t))).setCell ⟨rb, t, none⟩ (.slice (some ⟨g' r, 0, none⟩) c (cc' r))).drew) := ((hb4.set HR3.out.own (Or.inl rfl) HR3.out.ge r _).set ((HR3.out.own.stored r (.slice (some ⟨g' t, 0, none⟩) c (cc' t))).1) (Or.inl rfl) HR3.out.ge t _).drew
            have HD := Lib.hid (fun i j => swN_lt HL.out r t i j)
            have hbl := HF.out _ hb5.1 |>.lt.iv _ (HL.out t k)
            clear hy' f1 f2 f3 f4
            generalize ((w2.setCell ⟨rb, r, none⟩ (.slice (some ⟨g' t, 0, none⟩) c (cc' t))).setCell ⟨rb, t, none⟩ (.slice (some ⟨g' r, 0, none⟩) c (cc' r))).drew = w5 at *
            generalize (fun x => if x = r then g' t else if x = t then g' r else g' x) = g2 at *
            generalize (fun x => if x = r then cc' t else if x = t then cc' r else cc' x) = cc2 at *
            generalize swN C r t = D at *
            generalize ((mdOps p)).inv (C t k) = b at *
            have e1 := HR4.out.c1 hrn
            go_wp2
            go_loopw [60] (fun j w6 => ∃ x : Nat, x ≤ c ∧ j = .int .i64 x ∧ BtW B w w6 ∧ RowsAt w6 B 23 22 .u32 rb cap g2 cc2 n c (scT (mdOps p) D r b x)) (fun j _ => c - (intOf j).toNat)
            case atStart => exact ⟨0, by omega, rfl, hb5, HR4.out.congr fun i j _ _ => scT_zero.symm⟩
            case round =>
              obtain ⟨x, hx, rfl, hb6, hR6⟩ := hrel
              clear e1
              have HR6 := Lib.hid hR6
              clear hR6
              by_cases hlt3 : x < c
              · have d3 := HR6.out.c1 hrn
                have d4 := HR6.out.c2 hrn hlt3
                rw [scT_at] at d4
                have lrb6 := HR6.out.lt
                have lgr6 := HR6.out.ltg hrn
                have HFr6 := Lib.hid (HF.out _ hb6.1)
                have nM := naMuW pb
                have mM := meMuW pb
                go_wp2
                refine wp_region_rg 19 (fun w' => Below wr.heap.size wr w' ∧ w'.cell? ⟨rb, r, none⟩ = some (.slice (some ⟨g2 r, 0, none⟩) c (cc2 r)) ∧ w'.cell? ⟨g2 r, x, none⟩ = some (.int .u32 (D r x : Nat)))
                  (by kernel_rfl) (by kernel_rfl) ⟨(Below.refl _ _).drew, d3, d4⟩ ?_
                iterate 17
                  refine' RG.plain rfl (by rfl) (fun w1 hw1 => ?_) ?_
                  rotate_left
                  · (try dsimp only at hw1)
                    go_simp
                    first | done | with_reducible rfl
                  simp only [Act.put, List.setIfInBounds_toArray, List.set_cons_zero, List.set_cons_succ]
                refine' RG.call rfl (by rfl) (fun w1 hw1 => ?_) (fun w1 hw1 => ?_) ?_
                rotate_left 3
                · (try dsimp only at hw1)
                  go_simp
                  exact ⟨rfl, rfl⟩
                · refine (mlW pb p _ _ w1 (HFr6.out.below hw1.1) (HD.out r x) hbl).mono ?_
                  rintro e w2 ⟨rfl, hb3⟩
                  have hk3 := bstep hw1.1 hb3
                  exact ⟨rfl, hk3, kcell hk3 lrb6 d3, kcell hk3 lgr6 d4⟩
                simp only [Act.put, List.setIfInBounds_toArray, List.set_cons_zero, List.set_cons_succ]
                iterate 1
                  refine' RG.plain rfl (by rfl) (fun w1 hw1 => ?_) ?_
                  rotate_left
                  · (try dsimp only at hw1)
                    go_simp
                    first | done | with_reducible rfl
                  simp only [Act.put, List.setIfInBounds_toArray, List.set_cons_zero, List.set_cons_succ]
                intro w7 hw7
                have HR7 := Lib.hid (HR6.out.below hw7.1)
                have hb7 : BtW B w w7 := hb6.step (Nat.le_trans hB hb6.1.size) hw7.1
                have e4 := hw7.2.2
                have e5 := (HR7.out.row r hrn).frozenAt x
                have HS7 := Lib.hid ((HR7.out.set (by decide) hrn ((mdOps p).mul (D r x) b)).congr (fun i j _ _ => scT_next))
                have HGR := Lib.hid (hb7.set (HR7.out.row r hrn) (Or.inr rfl) (HR7.out.geg hrn) x (.int .u32 (((mdOps p).mul (D r x) b) : Nat)))
                clear hb7
                simp only [List.drop_succ_cons, List.drop_zero]
                go_wp2
                go_roundw
                case rel => exact ⟨x + 1, by omega, by go_num, HGR.out, HS7.out⟩
                case measure => simp [intOf]; omega
              · obtain rfl : x = c := by omega
                have HR8 := Lib.hid (HR6.out.congr (A' := scN (mdOps p) D r b) fun i j _ hj => scT_full hj)
                have HSC := Lib.hid (fun i j => scN_lt (F := (mdOps p)) (M := 4294967296) (HF.out _ hb6.1).lt.ml HD.out hbl r i j)
                have hB6 := Nat.le_trans hB hb6.1.size
                go_wp2_with fail
                refine (clearedW pb p B rb cap n x r k g2 cc2 (scN (mdOps p) D r b) _ hB6 (fun w' h => HF.out w' (hb6.1.trans h)) HSC.out hn hc hrn hkc HR8.out).mono ?_
                rintro e w9 ⟨rfl, hb9, hR9⟩
                have HR9 := Lib.hid hR9
                clear hR9
                go_wp2
                go_roundg (go - 1)
                case measure => omega
                case rel => exact ⟨k + 1, by omega, by go_num, by rw [HZ.out]; go_num, hb6.trans hb9, g2, cc2, by rw [HZ.out]; exact HR9.out⟩
        · obtain rfl : t = n := by omega
          have hz := pvt_none (F := (mdOps p)) (A := C) (q := k) (t - r) r (fun x h1 h2 => HN.out x h1 (by omega))
          have HZ := Lib.hid (show redN (mdOps p) t A (k + 1) = (r, C) by rw [HS.out]; unfold redS; dsimp only; rw [hz])
          clear hz
          go_wp2
          go_roundg (go - 1)
          case measure => omega
          case rel => exact ⟨k + 1, by omega, by go_num, by rw [HZ.out], hb2, g', cc', by rw [HZ.out]; exact HR2.out⟩
    · obtain rfl : k = d := by omega
      go_wp2
      try rw [Exit.noGoto_ret]
      go_ret
      exact ⟨rfl, hb, g', cc', hR⟩
end Go.Proofs.Ytkibophcodhcbaa
