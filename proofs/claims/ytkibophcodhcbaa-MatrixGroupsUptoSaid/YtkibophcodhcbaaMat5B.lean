/- The walk of matrix.beside, for elements of kind byte. -/
import Derived.Test.YtkibophcodhcbaaMat4B
namespace Go.Proofs.Ytkibophcodhcbaa
open Go.RowKit


def BIB (w : World) (d : Nat) (G : Nat → Nat → Nat) (k : Nat) (rv : Value) (wr : World) : Prop :=
  Below w.heap.size w wr ∧ ∃ (g cc : Nat → Nat), wr.ownsRow w.heap.size 42 1 rv k (Rg k fun i => .slice (some ⟨g i, 0, none⟩) d (cc i)) ∧
    (∀ i, i < k → wr.ownsRow w.heap.size 5 1 (.slice (some ⟨g i, 0, none⟩) d (cc i)) d (Rg d fun j => .int .u8 (G i j : Nat))) ∧ (∀ i l, i < k → l < k → g i = g l → i = l)
set_option maxRecDepth 100000 in
set_option maxHeartbeats 2000000 in
theorem besideB (ft : TypeId) (fx : Value) (m n c d : Nat) (A C : Nat → Nat → Nat) (fc : Nat) (caps : Array Value) (w : World) (h : MatAt w 42 5 .u8 (.iface ft fx) m n c A)
    (hn : n ≤ 256) (hc0 : 0 < c) (hc : c ≤ 256) (hd0 : 0 < d) (hd : d ≤ 256)
    (hcf : ∀ args w, (callFunc fc args).run Try.prog w = .ok (.enter fc args) w)
    (hclo : ∀ (k : Nat) (w' : World), k < n → Below w.heap.size w w' → Calls Try.prog fc (#[.int .i64 (k:Int)] ++ caps) w' fun e w'' => ∃ g1 k1, e = .returned (.slice (some ⟨g1, 0, none⟩) d k1) ∧ g1 < w''.heap.size ∧ (∀ j, j < d → w''.cell? ⟨g1, j, none⟩ = some (.int .u8 (C k j : Nat))) ∧ Below w'.heap.size w' w'') :
    Calls Try.prog 96 #[.pointer (some ⟨m, 0, none⟩), .func (.func fc) #[] caps] w fun e w' => ∃ rv, e = .returned rv ∧ BIB w (c + d) (besN A C c) n rv w' := by
  obtain ⟨hm, h0, rb, cap, g, cc, h1, hR⟩ := h
  obtain ⟨j0, hj0, hy0, hy1, hy2⟩ := info_parts slIB
  have HR := Lib.hid hR
  have HCL := Lib.hid hclo
  have H0 := Lib.hid h0
  clear hR hclo h0
  go_enter Try.func96, Try.ntmps96
  go_wp2
  go_loopw [5, 13] (fun rv k wr => ∃ t : Nat, t ≤ n ∧ k = .int .i64 t ∧ BIB w (c + d) (besN A C c) t rv wr) (fun _ k _ => n - (intOf k).toNat)
  case atStart => exact ⟨0, by omega, rfl, Below.refl _ _, fun _ => 0, fun _ => 0, World.ownsRow_nil _ _ _ _, fun i hi => absurd hi (by omega), fun i _ hi => absurd hi (by omega)⟩
  case round =>
    obtain ⟨t, ht, rfl, hb, g', cc', hv, hrow, hinj⟩ := hrel
    by_cases hlt : t < n
    · have c1 := kcell hb HR.out.lt (HR.out.c1 hlt)
      have HV := Lib.hid hv
      have HW := Lib.hid hrow
      have HI := Lib.hid hinj
      clear hv hrow hinj
      go_wp2_with fail
      refine (HCL.out t _ hlt hb).mono ?_; rintro e w1 ⟨g1, k1, rfl, lg1, e1, hb1⟩
      have E1 := Lib.hid e1
      have hbw := bstep hb hb1
      clear e1
      go_wp2_with fail
      have hbx := (Below.refl w1.heap.size w1).alloc (Nat.le_refl _) (.cells #[.slice (some ⟨g t, 0, none⟩) c (cc t), .slice (some ⟨g1, 0, none⟩) d k1] 42)
      have HX := Lib.hid hbx
      refine (concatB w1.heap.size (g t) g1 c d (cc t) k1 (A t) (C t) _ hc0 hd0 (by omega) (by omega) (by simp) (bsz (bstep hbw hbx) (HR.out.ltg hlt)) (bsz hbx lg1) (by simp [go_sem]) (by simp [go_sem])
        (fun j hj => kcell (bstep hbw hbx) (HR.out.ltg hlt) (HR.out.c2 hlt hj)) (fun j hj => kcell hbx lg1 (E1.out j hj))).mono ?_
      rintro e w2 ⟨v, rfl, hv2, hb2⟩
      rw [Rg_app] at hv2
      obtain ⟨gr, cr, rfl, hgr⟩ := hv2.form (by omega)
      have hbw2 := bstep (bstep hbw hbx) hb2
      have hsz : w1.heap.size + 1 ≤ w2.heap.size := by have := hb2.size; simp at this; omega
      have hg7 : ∀ i, i < t → g' i ≠ gr := fun i hi e => by
        have h1 := (own_lt (HW.out i hi)).2
        have h2 := (own_lt hv2).1
        have h3 := hb1.size
        simp at h2
        omega
      have hlb : Below wr.heap.size wr w2 := bstep (bstep hb1 hbx) hb2
      have hown : w2.ownsRow w.heap.size 42 1 u5 t _ := own_below HV.out hlb
      have hrw : ∀ i, i < t → w2.ownsRow w.heap.size 5 1 _ _ _ := fun i hi => own_below (HW.out i hi) hlb
      have hnew : w2.ownsRow w.heap.size 5 1 (.slice (some ⟨gr, 0, none⟩) (c + d) cr) (c + d) (Rg (c + d) fun j => .int .u8 (besN A C c t j : Nat)) := own_base hv2 (by have := hb.size; have := hb1.size; simp; omega)
      have HO := Lib.hid hown
      have HRW := Lib.hid hrw
      have HN := Lib.hid hnew
      have H7 := Lib.hid hg7
      have hcl : Below w.heap.size w w2 := hbw2
      clear hown hrw hnew hg7 hv2 HV HW hbx HX
      go_wp2_with (
        (at_builtin
         refine wpList_append_own _ rfl _ _ 47 rfl w.heap.size 42 j0 (.slice none 0 0) 1 24 Try.underlying47 hj0 hy0 hy1 hy2 rfl (by decide) u5 t _ rfl (HO.out.alloc _) ⟨w2.heap.size, 0, none⟩ 1 1 [.slice (some ⟨gr, 0, none⟩) (c + d) cr] rfl rfl (cell_one_new _ _ _) ?c2 ?c3 ?c4 ?c5 ?_
         case c2 => intro u hu; simp at hu; subst hu; rfl
         case c3 => unfold maxLen; omega
         case c4 => omega
         case c5 => have := hcl.size; simp; omega
         intro v' w3 hown' hgrow _
         have hg3 := (World.grownBy_alloc w2 (.cells #[.slice (some ⟨gr, 0, none⟩) (c + d) cr] 42) u5.ownBlock).trans hgrow
         have hD := Lib.hid (rows_append (by decide) hcl (Nat.le_refl _) HRW.out HI.out H7.out HN.out HO.out hown' hg3)
         clear hg3 hgrow hown'))
      go_roundw
      case rel => exact ⟨t + 1, by omega, by go_num, hD.out⟩
      case measure => simp [intOf]; omega
    · obtain rfl : t = n := by omega
      go_wp2
      go_ret
      exact ⟨_, rfl, hb, g', cc', hv, hrow, hinj⟩
end Go.Proofs.Ytkibophcodhcbaa
