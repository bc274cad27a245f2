/- The walk of matrix.laid, for elements of kind uint32. -/
import Derived.Test.YtkibophcodhcbaaMem
namespace Go.Proofs.Ytkibophcodhcbaa
open Go.RowKit

theorem elIW : (Try.prog.info? 22).map (fun i => (i.zero, i.size, i.bytes)) = some (some (.int .u32 0), 1, 4) := by kernel_rfl
theorem slIW : (Try.prog.info? 23).map (fun i => (i.zero, i.size, i.bytes)) = some (some (.slice none 0 0), 1, 24) := by kernel_rfl

/-- what stands at the head of round k of the outer loop -/
def LIW (w : World) (fv : Value) (c : Nat) (G : Nat → Nat → Nat) (k : Nat) (wr : World) : Prop :=
  Below w.heap.size w wr ∧ ∃ (rv : Value) (g cc : Nat → Nat), wr.heap[w.heap.size]? = some (.cells #[fv, rv] 144 (0, 0)) ∧
    wr.ownsRow w.heap.size 23 1 rv k (Rg k fun i => .slice (some ⟨g i, 0, none⟩) c (cc i)) ∧
    (∀ i, i < k → wr.ownsRow w.heap.size 22 1 (.slice (some ⟨g i, 0, none⟩) c (cc i)) c (Rg c fun j => .int .u32 (G i j : Nat))) ∧ (∀ i l, i < k → l < k → g i = g l → i = l)
theorem LIW.below {w wr w' : World} {fv : Value} {c k : Nat} {G : Nat → Nat → Nat} (h : LIW w fv c G k wr) (hb : Below wr.heap.size wr w') : LIW w fv c G k w' := by
  obtain ⟨h1, rv, g, cc, h2, h3, h4, h5⟩ := h
  have hlt : w.heap.size < wr.heap.size := (Array.getElem?_eq_some_iff.1 h2).1
  exact ⟨bstep h1 hb, rv, g, cc, (hb.block _ hlt).trans h2, own_below h3 hb, fun i hi => own_below (h4 i hi) hb, h5⟩
/-- beside it the row that is being filled -/
def LJW (w W0 : World) (c gr : Nat) (f : Nat → Nat) (j : Nat) (wr : World) : Prop :=
  W0.grownBy wr (some gr) ∧ wr.ownsRow w.heap.size 22 1 (.slice (some ⟨gr, 0, none⟩) c c) c (Rg c fun t => .int .u32 ((if t < j then f t else 0 : Nat) : Int))
theorem LJW.start {w wr : World} {c : Nat} {f : Nat → Nat} (h : Below w.heap.size w wr) (hc : c ≤ 256) : LJW w (wr.alloc (.cells (madeCells #[.int .u32 0] c) 22)) c wr.heap.size f 0 (wr.alloc (.cells (madeCells #[.int .u32 0] c) 22)) := by
  refine ⟨World.grownBy.refl _ _, ?_⟩
  have hs : (madeCells #[Value.int .u32 0] c).size = c := by
    have := congrArg List.length (toList_madeCells_one (Value.int .u32 0) c)
    simpa using this
  refine ⟨by rw [Rg_len, Nat.mul_one], .inr ⟨wr.heap.size, c, _, rfl, h.size, heap_alloc_new wr _, Nat.le_refl _, by unfold maxLen; omega, by rw [hs, Nat.mul_one], ?_⟩⟩
  rw [toList_madeCells_one, Nat.mul_one, Rg_replicate, List.take_of_length_le (by rw [Rg_len]; omega)]
  exact Rg_congr fun i _ => rfl
theorem LJW.next {w W0 w1 w2 : World} {c gr j : Nat} {f : Nat → Nat} (h : LJW w W0 c gr f j w1) (hb : Below w1.heap.size w1 w2) (hj : j < c) :
    LJW w W0 c gr f (j + 1) (w2.setCell ⟨gr, j, none⟩ (.int .u32 (f j : Nat))) := by
  refine ⟨(h.1.trans (grown_below hb)).trans (grown_set _), ?_⟩
  have := ((own_below h.2 hb).stored j (.int .u32 (f j : Nat))).1
  rw [Rg_set] at this
  rw [Rg_congr (g := fun k => if k = j then (.int .u32 (f j : Nat)) else .int .u32 ((if k < j then f k else 0 : Nat) : Int))]
  · exact this
  · intro t ht
    by_cases e : t = j
    · subst e; rw [if_pos (by omega), if_pos rfl]
    · rw [if_neg e]
      by_cases e2 : t < j
      · rw [if_pos e2, if_pos (by omega)]
      · rw [if_neg e2, if_neg (by omega)]

/-- what stood when the row was made, the new row's block being gr -/
def LNW (w : World) (fv : Value) (c : Nat) (G : Nat → Nat → Nat) (k gr : Nat) (W0 : World) : Prop :=
  Below w.heap.size w W0 ∧ w.heap.size < gr ∧ ∃ (rv : Value) (g cc : Nat → Nat), W0.heap[w.heap.size]? = some (.cells #[fv, rv] 144 (0, 0)) ∧
    W0.ownsRow w.heap.size 23 1 rv k (Rg k fun i => .slice (some ⟨g i, 0, none⟩) c (cc i)) ∧
    (∀ i, i < k → W0.ownsRow w.heap.size 22 1 (.slice (some ⟨g i, 0, none⟩) c (cc i)) c (Rg c fun j => .int .u32 (G i j : Nat))) ∧ (∀ i l, i < k → l < k → g i = g l → i = l) ∧
    rv.ownBlock ≠ some gr ∧ ∀ i, i < k → g i ≠ gr
theorem LNW.start {w wr : World} {fv : Value} {c k : Nat} {G : Nat → Nat → Nat} (h : LIW w fv c G k wr) (o : Obj) : LNW w fv c G k wr.heap.size (wr.alloc o) := by
  have h' := h.below ((Below.refl wr.heap.size wr).alloc (Nat.le_refl _) o)
  obtain ⟨h1, rv, g, cc, h2, h3, h4, h5⟩ := h
  refine ⟨h'.1, (Array.getElem?_eq_some_iff.1 h2).1, rv, g, cc, ?_, h3.alloc o, fun i hi => (h4 i hi).alloc o, h5, fun e => ?_, fun i hi e => ?_⟩
  · exact (Below.heap_alloc wr o _ (Array.getElem?_eq_some_iff.1 h2).1).trans h2
  · have := (h3.lt _ e).2; omega
  · have := (own_lt (h4 i hi)).2; omega
theorem LNW.later {w W0 w2 : World} {fv : Value} {c k gr : Nat} {G : Nat → Nat → Nat} (h : LNW w fv c G k gr W0) (hg : W0.grownBy w2 (some gr)) : LNW w fv c G k gr w2 := by
  obtain ⟨h1, hlt, rv, g, cc, h2, h3, h4, h5, h6, h7⟩ := h
  refine ⟨h1.grown hg h1.size (fun k hk => by injection hk with hk; omega), hlt, rv, g, cc, ?_, h3.kept hg (.inr h6), fun i hi => (h4 i hi).kept hg (.inr ?_), h5, h6, h7⟩
  · exact (hg.block _ (Array.getElem?_eq_some_iff.1 h2).1 (fun e => by injection e with e; omega)).trans h2
  · simp [Value.ownBlock]; exact h7 i hi
/-- the row is appended: the outer loop's relation behind the round -/
theorem LNW.done {w w2 w3 : World} {fv v : Value} {c k gr : Nat} {G : Nat → Nat → Nat} (h1 : Below w.heap.size w w2) {rv : Value} {g cc : Nat → Nat}
    (h2 : w2.heap[w.heap.size]? = some (.cells #[fv, rv] 144 (0, 0)))
    (h4 : ∀ i, i < k → w2.ownsRow w.heap.size 22 1 (.slice (some ⟨g i, 0, none⟩) c (cc i)) c (Rg c fun j => .int .u32 (G i j : Nat))) (h5 : ∀ i l, i < k → l < k → g i = g l → i = l)
    (h7 : ∀ i, i < k → g i ≠ gr) (hrow : w2.ownsRow w.heap.size 22 1 (.slice (some ⟨gr, 0, none⟩) c c) c (Rg c fun j => .int .u32 (G k j : Nat)))
    (h3 : w2.ownsRow w.heap.size 23 1 rv k (Rg k fun i => .slice (some ⟨g i, 0, none⟩) c (cc i)))
    (hv : w3.ownsRow w.heap.size 23 1 v (k + 1) (Rg k (fun i => .slice (some ⟨g i, 0, none⟩) c (cc i)) ++ [.slice (some ⟨gr, 0, none⟩) c c]))
    (hgr : w2.grownBy w3 rv.ownBlock) : LIW w fv c G (k + 1) (w3.setCell ⟨w.heap.size, 1, none⟩ v) := by
  have hb3 : Below w.heap.size w w3 := h1.grown hgr h1.size (fun k hk => (h3.lt _ hk).1)
  have hm3 : w3.heap[w.heap.size]? = some (.cells #[fv, rv] 144 (0, 0)) := (hgr.block _ (Array.getElem?_eq_some_iff.1 h2).1 (fun e => own_blk_ne h3 h2 (by decide) e.symm)).trans h2
  have hne : ∀ {i}, i < k → (Value.slice (some ⟨g i, 0, none⟩) c (cc i)).ownBlock ≠ rv.ownBlock := fun {i} hi e => by
    rcases h3.2 with ⟨rfl, _⟩ | ⟨g1, c1, cur, rfl, _⟩
    · simp [Value.ownBlock] at e
    · have e' : g i = g1 := by simpa [Value.ownBlock] using e
      exact own_ne h3 (h4 i hi) (by decide) e'.symm
  have hne2 : (Value.slice (some ⟨gr, 0, none⟩) c c).ownBlock ≠ rv.ownBlock := fun e => by
    rcases h3.2 with ⟨rfl, _⟩ | ⟨g1, c1, cur, rfl, _⟩
    · simp [Value.ownBlock] at e
    · have e' : gr = g1 := by simpa [Value.ownBlock] using e
      exact own_ne h3 hrow (by decide) e'.symm
  obtain ⟨g', cc', k1, k2, k3⟩ := RowsAt.snoc (w := w3) (B := w.heap.size) (eS := 23) (eE := 22) (K := .u32) (v := v) (G := G) (gr := gr) k
    (fun i hi => (h4 i hi).kept hgr (.inr (hne hi))) (hrow.kept hgr (.inr hne2)) h5 h7 hv
  have hset : ∀ {e s n xs} {rv' : Value}, w3.ownsRow w.heap.size e s rv' n xs → e ≠ 144 → (w3.setCell ⟨w.heap.size, 1, none⟩ v).ownsRow w.heap.size e s rv' n xs := fun h he =>
    own_set h (own_blk_ne h hm3 he) v
  refine ⟨hb3.setCell (Nat.le_refl _) v, v, g', cc', ?_, hset k1 (by decide), fun i hi => hset (k2 i hi) (by decide), k3⟩
  simp [World.setCell, Array.getElem?_modify, hm3]

set_option maxRecDepth 100000 in
set_option maxHeartbeats 2000000 in
theorem laid0W (ft : TypeId) (fx : Value) (n c : Nat) (fc : Nat) (caps : Array Value) (G : Nat → Nat → Nat) (w : World) (hn : n ≤ 256) (hc : c ≤ 256)
    (hcf : ∀ args w, (callFunc fc args).run Try.prog w = .ok (.enter fc args) w)
    (hclo : ∀ (i j : Nat) (w' : World), i < n → j < c → Below w.heap.size w w' → Calls Try.prog fc (#[.int .i64 (i : Int), .int .i64 (j : Int)] ++ caps) w' fun e w'' => e = .returned (.int .u32 (G i j : Nat)) ∧ Below w'.heap.size w' w'') :
    Calls Try.prog 79 #[.iface ft fx, .int .i64 n, .int .i64 c, .func (.func fc) #[] caps] w fun e w' => ∃ m, e = .returned (.pointer (some ⟨m, 0, none⟩)) ∧ (0 < n → MatB w.heap.size w' 23 22 .u32 (.iface ft fx) m n c G) ∧ Below w.heap.size w w' := by
  obtain ⟨i0, hi0, hz0, hz1, hz2⟩ := info_parts elIW
  obtain ⟨j0, hj0, hy0, hy1, hy2⟩ := info_parts slIW
  have hmk : ∀ u : World, (Instr.makeSlice 23 (.int .i64 (c : Int)) (.int .i64 (c : Int))).run Try.prog u =
      .ok (.slice (some ⟨u.heap.size, 0, none⟩) c c) (u.alloc (.cells (madeCells #[.int .u32 0] c) 22)) := fun u => by
    have h := run_make (P := Try.prog) u 23 22 i0 (.int .u32 0) Try.underlying23 hi0 hz0 .i64 .i64 (c : Int) (c : Int) (by omega) (Int.le_refl _) (by rw [hz2]; omega) (by omega)
    simpa [hz1, Value.cells] using h
  have HCL := Lib.hid hclo
  clear hclo
  go_enter Try.func79, Try.ntmps79
  go_wp2
  go_loopw [17] (fun i wr => ∃ k : Nat, k ≤ n ∧ i = .int .i64 k ∧ LIW w (.iface ft fx) c G k wr) (fun i _ => n - (intOf i).toNat)
  case atStart => exact ⟨0, by omega, rfl, (Below.refl _ _).alloc (Nat.le_refl _) _, .slice none 0 0, fun _ => 0, fun _ => 0, heap_alloc_new w _, World.ownsRow_nil _ _ _ _, fun i hi => absurd hi (by omega), fun i _ hi => absurd hi (by omega)⟩
  case round =>
    obtain ⟨k, hk, rfl, hL⟩ := hrel
    by_cases hlt : k < n
    · go_wp2
      have J0 := LJW.start (f := G k) (c := c) hL.1 hc
      have N0 := LNW.start hL (.cells (madeCells #[.int .u32 0] c) 22)
      clear hL
      have HN := Lib.hid N0
      clear N0
      generalize wr.alloc (.cells (madeCells #[.int .u32 0] c) 22) = W0 at *
      generalize wr.heap.size = gr at *
      go_loopw [24] (fun j w2 => ∃ t : Nat, t ≤ c ∧ j = .int .i64 t ∧ LJW w W0 c gr (G k) t w2) (fun j _ => c - (intOf j).toNat)
      case atStart => exact ⟨0, by omega, rfl, J0⟩
      case round =>
        obtain ⟨t, ht, rfl, hJ⟩ := hrel
        have HM := Lib.hid (HN.out.later hJ.1)
        have HJ := Lib.hid hJ
        clear hJ J0
        obtain ⟨w2, rfl⟩ : ∃ w2, w2 = wr := ⟨_, rfl⟩
        by_cases htl : t < c
        · go_wp2_with fail
          refine (HCL.out k t _ hlt htl HM.out.1).mono ?_; rintro e w3 ⟨rfl, hb3⟩
          have c0 : w3.cell? ⟨gr, t, none⟩ = some _ := own_cell (own_below HJ.out.2 hb3) htl
          have f0 : w3.frozen? ⟨gr, t, none⟩ = false := (own_below HJ.out.2 hb3).frozenAt t
          go_wp2
          go_roundw
          case rel => exact ⟨t + 1, by omega, by go_num, HJ.out.next hb3 htl⟩
          case measure => simp [intOf]; omega
        · obtain rfl : t = c := by omega
          obtain ⟨h1, hgr, rv, g, cc, h2, h3, h4, h5, h6, h7⟩ := HM.out
          have hrow : w2.ownsRow w.heap.size 22 1 (.slice (some ⟨gr, 0, none⟩) t t) t (Rg t fun j => .int .u32 (G k j : Nat)) := by
            have := HJ.out.2
            rw [Rg_congr (g := fun j => .int .u32 (G k j : Nat)) (fun j hj => by rw [if_pos hj])] at this
            exact this
          have c0 : w2.cell? ⟨w.heap.size, 1, none⟩ = some rv := by simp [World.cell?, h2]
          have hsz : w.heap.size < w2.heap.size := (Array.getElem?_eq_some_iff.1 h2).1
          have H2 := Lib.hid h2
          have H4 := Lib.hid h4
          have H7 := Lib.hid h7
          have H5 := Lib.hid h5
          have HR := Lib.hid hrow
          have H3 := Lib.hid h3
          clear h2 h4 h7 h5 hrow h3 h6
          go_wp2_with (
            (at_builtin
             refine wpList_append_own _ rfl _ _ 142 rfl w.heap.size 23 j0 (.slice none 0 0) 1 24 Try.underlying142 hj0 hy0 hy1 hy2 rfl (by decide) rv k _ rfl (H3.out.alloc _) ⟨w2.heap.size, 0, none⟩ 1 1 [.slice (some ⟨gr, 0, none⟩) t t] rfl rfl (cell_one_new _ _ _) ?c2 ?c3 ?c4 ?c5 ?_
             case c2 => intro u hu; simp at hu; subst hu; rfl
             case c3 => unfold maxLen; omega
             case c4 => omega
             case c5 => simp; omega
             intro v' w3 hown' hgrow _
             obtain ⟨g1, cap1, rfl, _⟩ := hown'.form (by omega)
             have hg3 := (World.grownBy_alloc w2 (.cells #[.slice (some ⟨gr, 0, none⟩) t t] 23) rv.ownBlock).trans hgrow
             have hD := Lib.hid (LNW.done h1 H2.out H4.out H5.out H7.out HR.out H3.out hown' hg3)
             have hm3 : w3.heap[w.heap.size]? = some (.cells #[.iface ft fx, rv] 144 (0, 0)) := (hg3.block _ (Array.getElem?_eq_some_iff.1 H2.out).1 (fun e => own_blk_ne H3.out H2.out (by decide) e.symm)).trans H2.out
             have c1 : w3.cell? ⟨w.heap.size, 1, none⟩ = some rv := by simp [World.cell?, hm3]
             have f1 : w3.frozen? ⟨w.heap.size, 1, none⟩ = false := by simp [World.frozen?, hm3]
             clear hm3 hg3 hgrow hown'))
          go_roundw
          case rel => exact ⟨k + 1, by omega, by go_num, hD.out⟩
          case measure => simp [intOf]; omega
    · obtain rfl : k = n := by omega
      go_wp2
      go_ret
      obtain ⟨h1, rv, g, cc, h2, h3, h4, h5⟩ := hL
      refine ⟨w.heap.size, rfl, fun hn0 => ?_, h1⟩
      have hlt' : w.heap.size < wr.heap.size := (Array.getElem?_eq_some_iff.1 h2).1
      obtain ⟨g1, cap, rfl, _⟩ := h3.form hn0
      exact ⟨Nat.le_refl _, hlt', by simp [World.cell?, h2], g1, cap, g, cc, by simp [World.cell?, h2], h3, h4, h5⟩
theorem laidW (ft : TypeId) (fx : Value) (n c : Nat) (fc : Nat) (caps : Array Value) (G : Nat → Nat → Nat) (w : World) (hn : n ≤ 256) (hc : c ≤ 256)
    (hcf : ∀ args w, (callFunc fc args).run Try.prog w = .ok (.enter fc args) w)
    (hclo : ∀ (i j : Nat) (w' : World), i < n → j < c → Below w.heap.size w w' → Calls Try.prog fc (#[.int .i64 (i : Int), .int .i64 (j : Int)] ++ caps) w' fun e w'' => e = .returned (.int .u32 (G i j : Nat)) ∧ Below w'.heap.size w' w'') :
    Calls Try.prog 79 #[.iface ft fx, .int .i64 n, .int .i64 c, .func (.func fc) #[] caps] w fun e w' => ∃ m, e = .returned (.pointer (some ⟨m, 0, none⟩)) ∧ (0 < n → MatAt w' 23 22 .u32 (.iface ft fx) m n c G) ∧ Below w.heap.size w w' :=
  (laid0W ft fx n c fc caps G w hn hc hcf hclo).mono fun _ _ ⟨m, h1, h2, h3⟩ => ⟨m, h1, fun h => (h2 h).mat, h3⟩
end Go.Proofs.Ytkibophcodhcbaa
