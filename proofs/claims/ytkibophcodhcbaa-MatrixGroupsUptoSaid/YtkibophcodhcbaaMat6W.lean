/- The walks of matrix.cleared and reduced, for elements of kind uint32. -/
import Derived.Test.YtkibophcodhcbaaMat5W
import Derived.Test.YtkibophcodhcbaaRg
import Derived.Deep.RegionHeld
namespace Go.Proofs.Ytkibophcodhcbaa
open Go.RowKit

/-- what a run may change: blocks at or above B, and of the old ones only rows -/
def BtW (B : Nat) (w w' : World) : Prop := Below B w w' ∧ ∀ (b : Nat) (cs : Array Value) (t : TypeId) (fr : Nat × Nat), w.heap[b]? = some (.cells cs t fr) → t ≠ 23 → t ≠ 22 → w'.heap[b]? = some (.cells cs t fr)
theorem BtW.refl (B : Nat) (w : World) : BtW B w w := ⟨Below.refl _ _, fun _ _ _ _ h _ _ => h⟩
theorem BtW.trans {B : Nat} {w w1 w2 : World} (h : BtW B w w1) (h2 : BtW B w1 w2) : BtW B w w2 := ⟨h.1.trans h2.1, fun b cs t fr e h3 h4 => h2.2 b cs t fr (h.2 b cs t fr e h3 h4) h3 h4⟩
theorem BtW.step {B : Nat} {w w1 w2 : World} (h : BtW B w w1) (hB : B ≤ w1.heap.size) (h2 : Below w1.heap.size w1 w2) : BtW B w w2 :=
  h.trans ⟨h2.mono hB, fun b _ _ _ e _ _ => by
    have : b < w1.heap.size := by
      obtain ⟨h, _⟩ := Array.getElem?_eq_some_iff.mp e
      exact h
    rw [h2.block b this]; exact e⟩
theorem BtW.drew {B : Nat} {w w1 : World} (h : BtW B w w1) : BtW B w w1.drew := ⟨h.1.drew, h.2⟩
theorem BtW.set {B B' : Nat} {w w1 : World} (h : BtW B w w1) {e : TypeId} {s g n cap n' : Nat} {xs : List Value} (ho : w1.ownsRow B' e s (.slice (some ⟨g, 0, none⟩) n cap) n' xs) (he : e = 23 ∨ e = 22) (hg : B ≤ g) (j : Nat) (u : Value) : BtW B w (w1.setCell ⟨g, j, none⟩ u) := by
  refine ⟨h.1.setCell hg u, fun b cs t fr e1 h3 h4 => ?_⟩
  have h5 := h.2 b cs t fr e1 h3 h4
  have hne : g ≠ b := fun e2 => own_blk_ne ho h5 (he.elim (fun e => e ▸ h3.symm) (fun e => e ▸ h4.symm)) (by simp [Value.ownBlock, e2])
  exact (Below.heap_setCell w1 ⟨g, j, none⟩ u b (fun e => hne e.symm)).trans h5
/-- a store elsewhere leaves a matrix -/
theorem MatAt.otherW {w : World} {eS eE : TypeId} {K : IntKind} {fv : Value} {m n c : Nat} {A : Nat → Nat → Nat} (h : MatAt w eS eE K fv m n c A) {p : Addr} {cs : Array Value} {t : TypeId} {fr : Nat × Nat} (hp : w.heap[p.block]? = some (.cells cs t fr)) (h1 : eS ≠ t) (h2 : eE ≠ t) (hm : m ≠ p.block) (u : Value) : MatAt (w.setCell p u) eS eE K fv m n c A := by
  obtain ⟨a1, a2, rb, cap, g, cc, a3, a4⟩ := h
  have hk := Below.heap_setCell w p u
  refine ⟨by simpa using a1, ?_, rb, cap, g, cc, ?_, own_set a4.own (own_blk_ne a4.own hp h1) u, fun i hi => own_set (a4.row i hi) (own_blk_ne (a4.row i hi) hp h2) u, a4.inj⟩
  · rw [World.cell?_setCell_far _ _ _ _ (fun e => hm e.symm)]; exact a2
  · rw [World.cell?_setCell_far _ _ _ _ (fun e => hm e.symm)]; exact a3

set_option maxRecDepth 100000 in
set_option maxHeartbeats 4000000 in
theorem clearedW (pb p : Nat) (B rb cap n c own q : Nat) (g cc : Nat → Nat) (A : Nat → Nat → Nat) (w : World) (hB : B ≤ w.heap.size) (hF : ∀ w', Below B w w' → FHW pb p w') (hA : ∀ i j, A i j < 4294967296)
    (hn : n ≤ 256) (hc : c ≤ 1024) (ho : own < n) (hq : q < c) (h : RowsAt w B 23 22 .u32 rb cap g cc n c A) :
    Calls Try.prog 123 #[.iface 25 (.pointer (some ⟨pb, 0, none⟩)), .slice (some ⟨rb, 0, none⟩) n cap, .int .i64 own, .int .i64 q] w fun e w' => e = .returned (.tuple #[]) ∧ BtW B w w' ∧ RowsAt w' B 23 22 .u32 rb cap g cc n c (clN (mdOps p) A own q) := by
  have HF := Lib.hid hF
  have HA := Lib.hid hA
  have H := Lib.hid h
  clear hF hA h
  go_enter Try.func123, Try.ntmps123
  go_wp2
  go_loopw [13] (fun i wr => ∃ k : Nat, k ≤ n ∧ i = .int .i64 k ∧ BtW B w wr ∧ RowsAt wr B 23 22 .u32 rb cap g cc n c (clK (mdOps p) A own q k)) (fun i _ => n - (intOf i).toNat)
  case atStart => exact ⟨0, by omega, rfl, BtW.refl _ _, H.out.congr fun i j _ _ => by simp [clK]⟩
  case round =>
    obtain ⟨k, hk, rfl, hb, hR⟩ := hrel
    have HR := Lib.hid hR
    clear hR
    by_cases hlt : k < n
    · by_cases hko : k = own
      · have HC := Lib.hid (HR.out.congr (A' := clK (mdOps p) A own q (k + 1)) fun i j _ _ => clK_own hko)
        have hh : ((k : Int) == (own : Int)) = true := by rw [beq_iff_eq]; omega
        clear hko
        go_wp2
        go_roundw
        case rel => exact ⟨k + 1, by omega, by go_num, hb, HC.out⟩
        case measure => simp [intOf]; omega
      · have hh : ((k : Int) == (own : Int)) = false := by rw [beq_eq_false_iff_ne]; omega
        have HK := Lib.hid hko
        clear hko
        have c1 := HR.out.c1 hlt
        have c2 := HR.out.c2 hlt hq
        rw [clK_self] at c2
        go_wp2
        go_loopw [31] (fun j w2 => ∃ t : Nat, t ≤ c ∧ j = .int .i64 t ∧ BtW B w w2 ∧ RowsAt w2 B 23 22 .u32 rb cap g cc n c (clT (mdOps p) A own q k t)) (fun j _ => c - (intOf j).toNat)
        case atStart => exact ⟨0, by omega, rfl, hb, HR.out.congr fun i j _ _ => (clT_zero HK.out).symm⟩
        case round =>
          obtain ⟨t, ht, rfl, hb2, hR2⟩ := hrel
          clear c1 c2
          have HR2 := Lib.hid hR2
          clear hR2
          by_cases hlt2 : t < c
          · have d1 := HR2.out.c1 hlt
            have d2 := HR2.out.c1 ho
            have d3 := HR2.out.c2 hlt hlt2
            rw [clT_at] at d3
            have d4 := HR2.out.c2 ho hlt2
            rw [clT_own] at d4
            have lrb := HR2.out.lt
            have lgk := HR2.out.ltg hlt
            have lgo := HR2.out.ltg ho
            have HFr := Lib.hid (HF.out _ hb2.1)
            have hm := HFr.out.lt.ml _ _ (HA.out k q) (HA.out own t)
            have nM := naMuW pb
            have nS := naSuW pb
            have mM := meMuW pb
            have mS := meSuW pb
            go_wp2
            refine wp_region_rg 31 (fun w' => Below wr.heap.size wr w' ∧ w'.cell? ⟨rb, k, none⟩ = some (.slice (some ⟨g k, 0, none⟩) c (cc k)) ∧ w'.cell? ⟨rb, own, none⟩ = some (.slice (some ⟨g own, 0, none⟩) c (cc own)) ∧ w'.cell? ⟨g k, t, none⟩ = some (.int .u32 (A k t : Nat)) ∧ w'.cell? ⟨g own, t, none⟩ = some (.int .u32 (A own t : Nat)))
              (by kernel_rfl) (by kernel_rfl) ⟨(Below.refl _ _).drew, d1, d2, d3, d4⟩ ?_
            iterate 25
              refine' RG.plain rfl (by rfl) (fun w1 hw1 => ?_) ?_
              rotate_left
              · (try dsimp only at hw1)
                go_simp
                first | done | with_reducible rfl
              simp only [Act.put, List.setIfInBounds_toArray, List.set_cons_zero, List.set_cons_succ]
            refine' RG.call rfl (by rfl) (fun w1 hw1 => ?_) (fun w1 hw1 => ?_) ?_
            rotate_left 3
            · (try dsimp only at hw1)
              go_simp
              exact ⟨rfl, rfl⟩
            · refine (mlW pb p _ _ w1 (HFr.out.below hw1.1) (HA.out k q) (HA.out own t)).mono ?_
              rintro e w2 ⟨rfl, hb3⟩
              have hk3 := bstep hw1.1 hb3
              exact ⟨rfl, hk3, kcell hk3 lrb d1, kcell hk3 lrb d2, kcell hk3 lgk d3, kcell hk3 lgo d4⟩
            simp only [Act.put, List.setIfInBounds_toArray, List.set_cons_zero, List.set_cons_succ]
            iterate 3
              refine' RG.plain rfl (by rfl) (fun w1 hw1 => ?_) ?_
              rotate_left
              · (try dsimp only at hw1)
                go_simp
                first | done | with_reducible rfl
              simp only [Act.put, List.setIfInBounds_toArray, List.set_cons_zero, List.set_cons_succ]
            refine' RG.call rfl (by rfl) (fun w1 hw1 => ?_) (fun w1 hw1 => ?_) ?_
            rotate_left 3
            · (try dsimp only at hw1)
              go_simp
              exact ⟨rfl, rfl⟩
            · refine (sbW pb p _ _ w1 (HFr.out.below hw1.1) (HA.out k t) hm).mono ?_
              rintro e w2 ⟨rfl, hb3⟩
              have hk3 := bstep hw1.1 hb3
              exact ⟨rfl, hk3, kcell hk3 lrb d1, kcell hk3 lrb d2, kcell hk3 lgk d3, kcell hk3 lgo d4⟩
            simp only [Act.put, List.setIfInBounds_toArray, List.set_cons_zero, List.set_cons_succ]
            iterate 1
              refine' RG.plain rfl (by rfl) (fun w1 hw1 => ?_) ?_
              rotate_left
              · (try dsimp only at hw1)
                go_simp
                first | done | with_reducible rfl
              simp only [Act.put, List.setIfInBounds_toArray, List.set_cons_zero, List.set_cons_succ]
            intro w2 hw2
            have HR3 := Lib.hid (HR2.out.below hw2.1)
            have hb4 : BtW B w w2 := hb2.step (Nat.le_trans hB hb2.1.size) hw2.1
            have e1 := hw2.2.2.2.1
            have e2 := (HR3.out.row k hlt).frozenAt t
            have HS := Lib.hid ((HR3.out.set (by decide) hlt ((mdOps p).sub (A k t) ((mdOps p).mul (A k q) (A own t)))).congr (fun i j _ _ => clT_next HK.out))
            have hgk := hb4.set (HR3.out.row k hlt) (Or.inr rfl) (HR3.out.geg hlt) t (.int .u32 (((mdOps p).sub (A k t) ((mdOps p).mul (A k q) (A own t))) : Nat))
            have HGK := Lib.hid hgk
            clear hgk hb4
            simp only [List.drop_succ_cons, List.drop_zero]
            go_wp2
            go_roundw
            case rel => exact ⟨t + 1, by omega, by go_num, HGK.out, HS.out⟩
            case measure => simp [intOf]; omega
          · obtain rfl : t = c := by omega
            have HZ := Lib.hid (HR2.out.congr (A' := clK (mdOps p) A own q (k + 1)) fun i j _ hj => clT_full hj)
            go_wp2
            go_roundw
            case rel => exact ⟨k + 1, by omega, by go_num, hb2, HZ.out⟩
            case measure => simp [intOf]; omega
    · obtain rfl : k = n := by omega
      go_wp2
      go_end0
      exact ⟨rfl, hb, HR.out.congr fun i j hi _ => if_pos hi⟩
end Go.Proofs.Ytkibophcodhcbaa
