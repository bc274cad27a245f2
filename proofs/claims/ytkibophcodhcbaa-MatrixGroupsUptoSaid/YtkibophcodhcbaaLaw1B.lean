/- The walks of the law side's mat: there, same, mul, inverse, at, for elements of kind byte. -/
import Derived.Test.YtkibophcodhcbaaLstB
import Derived.Test.YtkibophcodhcbaaMat2B
import Derived.Test.YtkibophcodhcbaaMat3B
import Derived.Test.YtkibophcodhcbaaMat8B
namespace Go.Proofs.Ytkibophcodhcbaa
open Go.RowKit

theorem loadMatB (w : World) (b : Nat) (v0 v1 : Value) (h0 : w.cell? ⟨b, 0, none⟩ = some v0) (h1 : w.cell? ⟨b, 1, none⟩ = some v1) : (loadVar 32 ⟨b, 0, none⟩).run Try.prog w = .ok (.agg #[v0, v1]) w := by
  simp [loadVar, Try.isAgg32, Try.sizeOf32, loadCells, loadCellsFrom, h0, h1, go_sem]
theorem res1B {P : Program} {fn : Func} {a u t : Nat} (h : fn.results = #[.cell a t, .tmp u]) (tmps : Array Value) (w : World) {b : Nat} (ha : tmps.getD a undef = .pointer (some ⟨b, 0, none⟩)) {vs : Value}
    (hl : (loadVar t ⟨b, 0, none⟩).run P w = .ok vs w) : (results fn tmps).run P w = .ok (.tuple #[vs, tmps.getD u undef]) w := by
  have e : asAddr (tmps.getD a undef) = pure ⟨b, 0, none⟩ := by rw [ha]; rfl
  rw [Array.getD_eq_getD_getElem?] at e
  simp [results, h, e, hl, Result.andThen]
theorem res2B {P : Program} {fn : Func} {a u v t : Nat} (h : fn.results = #[.cell a t, .tmp u, .tmp v]) (tmps : Array Value) (w : World) {b : Nat} (ha : tmps.getD a undef = .pointer (some ⟨b, 0, none⟩)) {vs : Value}
    (hl : (loadVar t ⟨b, 0, none⟩).run P w = .ok vs w) : (results fn tmps).run P w = .ok (.tuple #[vs, tmps.getD u undef, tmps.getD v undef]) w := by
  have e : asAddr (tmps.getD a undef) = pure ⟨b, 0, none⟩ := by rw [ha]; rfl
  rw [Array.getD_eq_getD_getElem?] at e
  simp [results, h, e, hl, Result.andThen]
theorem heap_setB (w : World) (b o : Nat) (u : Value) {cs : Array Value} {t : TypeId} {fr : Nat × Nat} (h : w.heap[b]? = some (.cells cs t fr)) : (w.setCell ⟨b, o, none⟩ u).heap[b]? = some (.cells (cs.setIfInBounds o u) t fr) := by
  simp [World.setCell, Array.getElem?_modify, h]
/-- the result's cell: two stores into a block of the law side's mat -/
theorem finB {w1 : World} {s x n d : Nat} {ft : TypeId} {fx : Value} {q0' q1' : Option Addr} {fr : Nat × Nat} {A : Nat → Nat → Nat} (hs : w1.heap[s]? = some (.cells #[.pointer q0', .pointer q1'] 32 fr)) (hx : MatAt w1 42 5 .u8 (.iface ft fx) x n d A) (u v : Value) :
    ((w1.setCell ⟨s, 0, none⟩ u).setCell ⟨s, 1, none⟩ v).cell? ⟨s, 0, none⟩ = some u ∧ ((w1.setCell ⟨s, 0, none⟩ u).setCell ⟨s, 1, none⟩ v).cell? ⟨s, 1, none⟩ = some v ∧ MatAt ((w1.setCell ⟨s, 0, none⟩ u).setCell ⟨s, 1, none⟩ v) 42 5 .u8 (.iface ft fx) x n d A := by
  have h1 := heap_setB w1 s 0 u hs
  have h2 := heap_setB _ s 1 v h1
  have hne : x ≠ s := fun e => by
    have h3 := hx.2.1
    rw [e] at h3
    simp [World.cell?, hs] at h3
  refine ⟨?_, ?_, (hx.otherB (p := ⟨s, 0, none⟩) hs (by decide) (by decide) hne u).otherB (p := ⟨s, 1, none⟩) h1 (by decide) (by decide) hne v⟩
  · simp [World.cell?, h2]
  · simp [World.cell?, h2]
theorem fin0B {w1 : World} {s : Nat} {q0' q1' : Option Addr} {fr : Nat × Nat} (hs : w1.heap[s]? = some (.cells #[.pointer q0', .pointer q1'] 32 fr)) (u v : Value) :
    ((w1.setCell ⟨s, 0, none⟩ u).setCell ⟨s, 1, none⟩ v).cell? ⟨s, 0, none⟩ = some u ∧ ((w1.setCell ⟨s, 0, none⟩ u).setCell ⟨s, 1, none⟩ v).cell? ⟨s, 1, none⟩ = some v := by
  have h1 := heap_setB w1 s 0 u hs
  have h2 := heap_setB _ s 1 v h1
  exact ⟨by simp [World.cell?, h2], by simp [World.cell?, h2]⟩
theorem heapLastB (w : World) (o : Obj) (n : Nat) (h : n = w.heap.size) : (w.alloc o).heap[n]? = some o := by subst h; exact Array.getElem?_push_size
theorem thereB (x : Nat) (w : World) :
    Calls Try.prog 11 #[(.agg #[.pointer (some ⟨x, 0, none⟩), .pointer none])] w fun e w' => e = .returned (.bool true) ∧ Below w.heap.size w w' := by
  go_enter Try.func11, Try.ntmps11
  go_wp2
  go_ret
  exact ⟨rfl, by go_grown⟩
theorem msameB (ft : TypeId) (fx : Value) (m o n c c' : Nat) (A A' : Nat → Nat → Nat) (w : World) (hn : n ≤ 256) (hc : c ≤ 256) (hc' : c' ≤ 256)
    (h : MatAt w 42 5 .u8 (.iface ft fx) m n c A) (h' : MatAt w 42 5 .u8 (.iface ft fx) o n c' A') :
    Calls Try.prog 13 #[(.agg #[.pointer (some ⟨m, 0, none⟩), .pointer none]), (.agg #[.pointer (some ⟨o, 0, none⟩), .pointer none])] w fun e w' => e = .returned (.bool (eqM A A' c c' n)) ∧ Below w.heap.size w w' := by
  have H := Lib.hid h
  have H' := Lib.hid h'
  clear h h'
  go_enter Try.func13, Try.ntmps13
  go_wp2_with fail
  refine (sameB ft fx m o n c c' A A' _ hn hc hc' (H.out.below (by go_grown)) (H'.out.below (by go_grown))).mono ?_; rintro e w1 ⟨rfl, hb⟩
  go_wp2
  go_ret
  exact ⟨rfl, bstep (by go_grown) hb⟩
theorem mmulB (m o n c d : Nat) (A B : Nat → Nat → Nat) (w : World) (hF : FHB w)
    (h : MatAt w 42 5 .u8 (.iface 81 (.agg #[])) m n c A) (ho : MatAt w 42 5 .u8 (.iface 81 (.agg #[])) o c d B) (hA : ∀ i j, A i j < 256) (hB : ∀ i j, B i j < 256)
    (hn0 : 0 < n) (hc0 : 0 < c) (hn : n ≤ 256) (hc : c ≤ 256) (hd : d ≤ 256) :
    Calls Try.prog 12 #[(.agg #[.pointer (some ⟨m, 0, none⟩), .pointer none]), (.agg #[.pointer (some ⟨o, 0, none⟩), .pointer none])] w fun e w' => ∃ x, e = .returned (.tuple #[(.agg #[.pointer (some ⟨x, 0, none⟩), .pointer none]), .int .i64 0]) ∧ MatAt w' 42 5 .u8 (.iface 81 (.agg #[])) x n d (mulN gfOps c A B) ∧ Below w.heap.size w w' := by
  have H := Lib.hid h
  have H' := Lib.hid ho
  have HF := Lib.hid hF
  have HA := Lib.hid hA
  have HB2 := Lib.hid hB
  clear h ho hF hA hB
  go_enter Try.func12, Try.ntmps12
  go_wp2_with fail
  refine (mulB m o n c d A B _ (HF.out.below (by go_grown)) (H.out.below (by go_grown)) (H'.out.below (by go_grown)) HA.out HB2.out hn0 hc0 hn hc hd).mono ?_; rintro e w1 ⟨x, rfl, hx, hb⟩
  have HX := Lib.hid hx
  obtain ⟨hc5, hf5⟩ := bcell hb
  have hs : w1.heap[w.heap.size + 1 + 1]? = some (.cells #[.pointer none, .pointer none] 32 (0, 0)) := by
    rw [hb.block (w.heap.size + 1 + 1) (by simp)]; exact heapLastB _ _ _ (by simp)
  have HS := Lib.hid hs
  have hbt := bstep (by go_grown : Below w.heap.size w _) hb
  clear hx hs
  go_wp2
  obtain ⟨e0, e1, e2⟩ := finB HS.out HX.out (.pointer (some ⟨x, 0, none⟩)) (.pointer none)
  (try simp only [Exit.inBlock, Exit.then])
  refine bodyPost_ret (res1B rfl _ _ rfl (loadMatB _ _ _ _ e0 e1)) rfl ?_
  exact ⟨x, rfl, e2, (hbt.setCell (by simp; omega) _).setCell (by simp; omega) _⟩
theorem minverseB (m n : Nat) (A : Nat → Nat → Nat) (w : World) (hF : FHB w) (h : MatAt w 42 5 .u8 (.iface 81 (.agg #[])) m n n A) (hA : ∀ i j, A i j < 256) (hn0 : 0 < n) (hn : n ≤ 256) :
    Calls Try.prog 14 #[(.agg #[.pointer (some ⟨m, 0, none⟩), .pointer none])] w fun e w' => Below w.heap.size w w' ∧
      (if (redN gfOps n (besN A (idN gfOps) n) n).1 < n then e = .returned (.tuple #[.agg #[.pointer none, .pointer none], .int .i64 71])
       else ∃ x, e = .returned (.tuple #[(.agg #[.pointer (some ⟨x, 0, none⟩), .pointer none]), .int .i64 0]) ∧ MatAt w' 42 5 .u8 (.iface 81 (.agg #[])) x n n (fun i j => (redN gfOps n (besN A (idN gfOps) n) n).2 i (n + j))) := by
  have H := Lib.hid h
  have HF := Lib.hid hF
  have HA := Lib.hid hA
  clear h hF hA
  go_enter Try.func14, Try.ntmps14
  go_wp2_with fail
  refine (inverseB m n A _ (HF.out.below (by go_grown)) (H.out.below (by go_grown)) HA.out hn0 hn).mono ?_; rintro e w1 ⟨hb, hx⟩
  obtain ⟨hc5, hf5⟩ := bcell hb
  have hs : w1.heap[w.heap.size + 1]? = some (.cells #[.pointer none, .pointer none] 32 (0, 0)) := by
    rw [hb.block (w.heap.size + 1) (by simp)]; exact heapLastB _ _ _ (by simp)
  have HS := Lib.hid hs
  have hbt := bstep (by go_grown : Below w.heap.size w _) hb
  clear hs
  by_cases hlt : (redN gfOps n (besN A (idN gfOps) n) n).1 < n
  · rw [if_pos hlt] at hx
    subst hx
    go_wp2
    obtain ⟨e0, e1⟩ := fin0B HS.out (.pointer none) (.pointer none)
    (try simp only [Exit.inBlock, Exit.then])
    refine bodyPost_ret (res1B rfl _ _ rfl (loadMatB _ _ _ _ e0 e1)) rfl ?_
    exact ⟨(hbt.setCell (by simp) _).setCell (by simp) _, by first | rfl | (rw [if_pos hlt])⟩
  · rw [if_neg hlt] at hx
    obtain ⟨x, rfl, hx⟩ := hx
    have HX := Lib.hid hx
    clear hx
    go_wp2
    obtain ⟨e0, e1, e2⟩ := finB HS.out HX.out (.pointer (some ⟨x, 0, none⟩)) (.pointer none)
    (try simp only [Exit.inBlock, Exit.then])
    refine bodyPost_ret (res1B rfl _ _ rfl (loadMatB _ _ _ _ e0 e1)) rfl ?_
    first | exact ⟨(hbt.setCell (by simp) _).setCell (by simp) _, x, rfl, e2⟩ | exact ⟨(hbt.setCell (by simp) _).setCell (by simp) _, by rw [if_neg hlt]; exact ⟨x, rfl, e2⟩⟩
theorem mat_atB (ft : TypeId) (fx : Value) (m n c : Nat) (A : Nat → Nat → Nat) (w : World) (r k : Nat) (h : MatAt w 42 5 .u8 (.iface ft fx) m n c A) (hA : ∀ i j, A i j < 256) (hr : r < n) (hk : k < c) (hn : n ≤ 256) (hc : c ≤ 256) :
    Calls Try.prog 29 #[(.agg #[.pointer (some ⟨m, 0, none⟩), .pointer none]), .int .i64 r, .int .i64 k] w fun e w' => e = .returned (.tuple #[.int .u32 (A r k : Nat), .int .i64 0]) ∧ Below w.heap.size w w' := by
  have H := Lib.hid h
  have hl := hA r k
  clear h hA
  go_enter Try.func29, Try.ntmps29
  go_wp2_with fail
  refine (atB ft fx m n c A _ r k (H.out.below (by go_grown)) hr hk hn hc).mono ?_; rintro e w1 ⟨rfl, rfl⟩
  go_wp2
  go_ret2
  exact ⟨rfl, by go_grown⟩
theorem identmB (n : Nat) (w : World) (hF : FHB w) (hn : 1 ≤ n) (hn2 : n ≤ 256) :
    Calls Try.prog 10 #[(.int .u32 0), (.pointer none), .int .i64 n] w fun e w' => ∃ x, e = .returned (.tuple #[(.agg #[.pointer (some ⟨x, 0, none⟩), .pointer none]), .int .i64 0]) ∧ MatAt w' 42 5 .u8 (.iface 81 (.agg #[])) x n n (idN gfOps) ∧ Below w.heap.size w w' := by
  have HF := Lib.hid hF
  clear hF
  go_enter Try.func10, Try.ntmps10
  go_wp2_with fail
  refine (identB n _ (HF.out.below (by go_grown)) hn hn2).mono ?_; rintro e w1 ⟨x, rfl, hx, hb⟩
  have HX := Lib.hid hx
  obtain ⟨hc5, hf5⟩ := bcell hb
  have hs : w1.heap[w.heap.size]? = some (.cells #[.pointer none, .pointer none] 32 (0, 0)) := by
    rw [hb.block w.heap.size (by simp)]; exact heapLastB _ _ _ (by simp)
  have HS := Lib.hid hs
  have hbt := bstep (by go_grown : Below w.heap.size w _) hb
  clear hx hs
  go_wp2
  obtain ⟨e0, e1, e2⟩ := finB HS.out HX.out (.pointer (some ⟨x, 0, none⟩)) (.pointer none)
  (try simp only [Exit.inBlock, Exit.then])
  refine bodyPost_ret (res1B rfl _ _ rfl (loadMatB _ _ _ _ e0 e1)) rfl ?_
  exact ⟨x, rfl, e2, (hbt.setCell (by simp) _).setCell (by simp) _⟩
end Go.Proofs.Ytkibophcodhcbaa
