/- The walk of MatrixGroups, for elements of kind byte. -/
import Derived.Test.YtkibophcodhcbaaLaw5
import Derived.Test.YtkibophcodhcbaaGf
namespace Go.Proofs.Ytkibophcodhcbaa
open Go.RowKit

/-- a box that holds a matrix -/
structure BXB (w : World) (fv : Value) (s x n : Nat) (A : Nat → Nat → Nat) : Prop where
  lt : s < w.heap.size
  c0 : w.cell? ⟨s, 0, none⟩ = some (.pointer (some ⟨x, 0, none⟩))
  c1 : w.cell? ⟨s, 1, none⟩ = some (.pointer none)
  m : MatAt w 42 5 .u8 fv x n n A
theorem BXB.below {w w' : World} {fv : Value} {s x n : Nat} {A : Nat → Nat → Nat} (h : BXB w fv s x n A) (hb : Below w.heap.size w w') : BXB w' fv s x n A :=
  ⟨bsz hb h.lt, kcell hb h.lt h.c0, kcell hb h.lt h.c1, h.m.below hb⟩
theorem BXB.new {w : World} {fv : Value} {x n : Nat} {A : Nat → Nat → Nat} (h : MatAt w 42 5 .u8 fv x n n A) : BXB (w.alloc (.cells #[(.pointer (some ⟨x, 0, none⟩)), (.pointer none)] 32)) fv w.heap.size x n A :=
  ⟨by simp, by simp, by simp, h.below ((Below.refl _ _).alloc (Nat.le_refl _) _)⟩
/-- a list of numbers that was handed in -/
def INB (w : World) (v : Value) (len : Nat) (z : Nat → Nat) : Prop :=
  len ≤ 9223372036854775807 ∧ (∀ j, z j < 4294967296) ∧ ((v = .slice none 0 0 ∧ len = 0 ∧ z = fun _ => 0) ∨ ∃ a cap, v = .slice (some a) len cap ∧ (0 < len → a.block < w.heap.size) ∧ ∀ j, j < len → w.cell? (a.add j) = some (.int .u32 (z j : Nat)))
theorem INB.below {w w' : World} {v : Value} {len : Nat} {z : Nat → Nat} (h : INB w v len z) (hb : Below w.heap.size w w') : INB w' v len z := by
  obtain ⟨h1, h2, h3⟩ := h
  refine ⟨h1, h2, h3.imp id ?_⟩
  rintro ⟨a, cap, h4, h5, h6⟩
  exact ⟨a, cap, h4, fun h => Nat.lt_of_lt_of_le (h5 h) hb.size, fun j hj => (hb.cell (p := a.add j) (by rw [Go.ChangeShapes.block_add]; exact h5 (by omega))).trans (h6 j hj)⟩
theorem squareUB (pb p n : Nat) (v : Value) (len : Nat) (z : Nat → Nat) (w : World)  (hn : 1 ≤ n) (hn2 : n ≤ 16) (h : INB w v len z) :
    Calls Try.prog 9 #[(.int .u32 0), (.pointer none), .int .i64 n, v] w fun e w' => ∃ x, e = .returned (.tuple #[(.agg #[.pointer (some ⟨x, 0, none⟩), .pointer none]), .bool true]) ∧
      MatAt w' 42 5 .u8 (.iface 81 (.agg #[])) x n n (fun i j => elB p (padNB len z (i * n + j))) ∧ Below w.heap.size w w' := by
  obtain ⟨h1, h2, ⟨rfl, rfl, rfl⟩ | ⟨a, cap, rfl, h4, h5⟩⟩ := h
  · exact squareNB pb p n w hn hn2
  · exact squareSB pb p n a len cap z w hn hn2 h1 h4 h2 h5
theorem el_qB (p n len : Nat) (z : Nat → Nat) (h : FLaw gfOps 256) : ∀ i j, elB p (padNB len z (i * n + j)) < 256 := fun i j => h.ad _ _ (Nat.mod_lt _ (by omega)) h.zr
set_option maxRecDepth 100000 in
set_option maxHeartbeats 8000000 in
theorem groupsB (p : Nat) (num : Int) (a b c : Value) (lena lenb lenc : Nat) (za zb zc : Nat → Nat) (w : World) (h1 : -9223372036854775808 ≤ num) (h2 : num < 9223372036854775808) (ia : INB w a lena za) (ib : INB w b lenb zb) (ic : INB w c lenc zc) :
    Calls Try.prog 3 #[(.int .u32 0), .int .i64 num, a, b, c] w fun e w' => e = .returned (.bool true) ∧ Below w.heap.size w w' := by
  have Ia := Lib.hid ia
  have Ib := Lib.hid ib
  have Ic := Lib.hid ic
  have TB := Lib.hid (Below.refl w.heap.size w)
  clear ia ib ic
  go_enter Try.func3, Try.ntmps3
  go_wp2_with fail
  refine (awake w).mono ?_
  rintro e w0 ⟨rfl, hb⟩
  replace Ia := Lib.hid (Ia.out.below hb)
  replace Ib := Lib.hid (Ib.out.below hb)
  replace Ic := Lib.hid (Ic.out.below hb)
  replace TB := Lib.hid (bstep TB.out hb)
  clear hb
  go_wp2_with fail
  refine (fieldB w0).mono ?_
  rintro e w0a ⟨rfl, rfl⟩
  have pb : Nat := 0
  have FC := Lib.hid (show FHB w0 from trivial)
  have LAW := Lib.hid gfLaw
  go_wp2_with fail
  refine (pickI num 6 _ h1 h2 (by omega) (by omega)).mono ?_
  rintro e w0b ⟨k, rfl, hk, rfl⟩
  obtain ⟨n, hn⟩ : ∃ n : Nat, (1 : Int) + (k : Int) = (n : Int) := ⟨k + 1, by omega⟩
  have hn1 : 1 ≤ n := by omega
  have hn6 : n ≤ 6 := by omega
  have LA := Lib.hid (el_qB p n lena za LAW.out)
  have LB := Lib.hid (el_qB p n lenb zb LAW.out)
  have LC := Lib.hid (el_qB p n lenc zc LAW.out)
  go_wp2_with fail
  refine (squareUB pb p n a lena za w0 hn1 (by omega) Ia.out).mono ?_
  rintro e w1 ⟨x1, rfl, hx, hb⟩
  replace Ia := Lib.hid (Ia.out.below hb)
  replace Ib := Lib.hid (Ib.out.below hb)
  replace Ic := Lib.hid (Ic.out.below hb)
  replace FC := Lib.hid (FC.out.below hb)
  replace TB := Lib.hid (bstep TB.out hb)
  have X := Lib.hid hx
  clear hx hb
  go_wp2_with fail
  have hb := (Below.refl w1.heap.size w1).alloc (Nat.le_refl _) (.cells #[(.pointer (some ⟨x1, 0, none⟩)), (.pointer none)] 32)
  have BA := Lib.hid (BXB.new X.out)
  replace Ia := Lib.hid (Ia.out.below hb)
  replace Ib := Lib.hid (Ib.out.below hb)
  replace Ic := Lib.hid (Ic.out.below hb)
  replace FC := Lib.hid (FC.out.below hb)
  replace TB := Lib.hid (bstep TB.out hb)
  clear hb X
  generalize w1.alloc (.cells #[(.pointer (some ⟨x1, 0, none⟩)), (.pointer none)] 32) = v1 at *
  generalize w1.heap.size = s1 at *
  refine (squareUB pb p n b lenb zb v1 hn1 (by omega) Ib.out).mono ?_
  rintro e w2 ⟨x2, rfl, hx, hb⟩
  replace Ia := Lib.hid (Ia.out.below hb)
  replace Ib := Lib.hid (Ib.out.below hb)
  replace Ic := Lib.hid (Ic.out.below hb)
  replace FC := Lib.hid (FC.out.below hb)
  replace BA := Lib.hid (BA.out.below hb)
  replace TB := Lib.hid (bstep TB.out hb)
  have X := Lib.hid hx
  clear hx hb
  go_wp2_with fail
  have hb := (Below.refl w2.heap.size w2).alloc (Nat.le_refl _) (.cells #[(.pointer (some ⟨x2, 0, none⟩)), (.pointer none)] 32)
  have BB := Lib.hid (BXB.new X.out)
  replace Ia := Lib.hid (Ia.out.below hb)
  replace Ib := Lib.hid (Ib.out.below hb)
  replace Ic := Lib.hid (Ic.out.below hb)
  replace FC := Lib.hid (FC.out.below hb)
  replace BA := Lib.hid (BA.out.below hb)
  replace TB := Lib.hid (bstep TB.out hb)
  clear hb X
  generalize w2.alloc (.cells #[(.pointer (some ⟨x2, 0, none⟩)), (.pointer none)] 32) = v2 at *
  generalize w2.heap.size = s2 at *
  refine (squareUB pb p n c lenc zc v2 hn1 (by omega) Ic.out).mono ?_
  rintro e w3 ⟨x3, rfl, hx, hb⟩
  replace Ia := Lib.hid (Ia.out.below hb)
  replace Ib := Lib.hid (Ib.out.below hb)
  replace Ic := Lib.hid (Ic.out.below hb)
  replace FC := Lib.hid (FC.out.below hb)
  replace BA := Lib.hid (BA.out.below hb)
  replace BB := Lib.hid (BB.out.below hb)
  replace TB := Lib.hid (bstep TB.out hb)
  have X := Lib.hid hx
  clear hx hb
  go_wp2_with fail
  have hb := (Below.refl w3.heap.size w3).alloc (Nat.le_refl _) (.cells #[(.pointer (some ⟨x3, 0, none⟩)), (.pointer none)] 32)
  have BC := Lib.hid (BXB.new X.out)
  replace Ia := Lib.hid (Ia.out.below hb)
  replace Ib := Lib.hid (Ib.out.below hb)
  replace Ic := Lib.hid (Ic.out.below hb)
  replace FC := Lib.hid (FC.out.below hb)
  replace BA := Lib.hid (BA.out.below hb)
  replace BB := Lib.hid (BB.out.below hb)
  replace TB := Lib.hid (bstep TB.out hb)
  clear hb X
  generalize w3.alloc (.cells #[(.pointer (some ⟨x3, 0, none⟩)), (.pointer none)] 32) = v3 at *
  generalize w3.heap.size = s3 at *
  generalize hgA : (fun i j => elB p (padNB lena za (i * n + j))) = MA at *
  generalize hgB : (fun i j => elB p (padNB lenb zb (i * n + j))) = MB at *
  generalize hgC : (fun i j => elB p (padNB lenc zc (i * n + j))) = MC at *
  replace LA := Lib.hid (show ∀ i j, MA i j < 256 by rw [← hgA]; exact LA.out)
  replace LB := Lib.hid (show ∀ i j, MB i j < 256 by rw [← hgB]; exact LB.out)
  replace LC := Lib.hid (show ∀ i j, MC i j < 256 by rw [← hgC]; exact LC.out)
  clear hgA hgB hgC
  have LI := Lib.hid (idN_lt LAW.out)
  have LAB := Lib.hid (mulN_lt (n := n) LAW.out LA.out LB.out)
  have LBC := Lib.hid (mulN_lt (n := n) LAW.out LB.out LC.out)
  have QLE := Lib.hid (show 256 ≤ 256 by omega)
  have MLA := Lib.hid (fun i j => Nat.lt_of_lt_of_le (LA.out i j) QLE.out)
  have MLB := Lib.hid (fun i j => Nat.lt_of_lt_of_le (LB.out i j) QLE.out)
  have MLC := Lib.hid (fun i j => Nat.lt_of_lt_of_le (LC.out i j) QLE.out)
  have MLI := Lib.hid (fun i j => Nat.lt_of_lt_of_le (LI.out i j) QLE.out)
  have MLAB := Lib.hid (fun i j => Nat.lt_of_lt_of_le (LAB.out i j) QLE.out)
  have MLBC := Lib.hid (fun i j => Nat.lt_of_lt_of_le (LBC.out i j) QLE.out)
  have W1 := Lib.hid (lawAssoc (n := n) LAW.out LA.out LB.out LC.out)
  have W2 := Lib.hid (lawRight (n := n) LAW.out LA.out)
  have W3 := Lib.hid (lawLeft (n := n) LAW.out LA.out)
  refine (identmB n v3 FC.out hn1 (by omega) ).mono ?_
  rintro e w4 ⟨x4, rfl, hx, hb⟩
  replace Ia := Lib.hid (Ia.out.below hb)
  replace Ib := Lib.hid (Ib.out.below hb)
  replace Ic := Lib.hid (Ic.out.below hb)
  replace FC := Lib.hid (FC.out.below hb)
  replace BA := Lib.hid (BA.out.below hb)
  replace BB := Lib.hid (BB.out.below hb)
  replace BC := Lib.hid (BC.out.below hb)
  replace TB := Lib.hid (bstep TB.out hb)
  have X := Lib.hid hx
  clear hx hb
  go_wp2_with fail
  have hb := (Below.refl w4.heap.size w4).alloc (Nat.le_refl _) (.cells #[(.pointer (some ⟨x4, 0, none⟩)), (.pointer none)] 32)
  have BI := Lib.hid (BXB.new X.out)
  replace Ia := Lib.hid (Ia.out.below hb)
  replace Ib := Lib.hid (Ib.out.below hb)
  replace Ic := Lib.hid (Ic.out.below hb)
  replace FC := Lib.hid (FC.out.below hb)
  replace BA := Lib.hid (BA.out.below hb)
  replace BB := Lib.hid (BB.out.below hb)
  replace BC := Lib.hid (BC.out.below hb)
  replace TB := Lib.hid (bstep TB.out hb)
  clear hb X
  generalize w4.alloc (.cells #[(.pointer (some ⟨x4, 0, none⟩)), (.pointer none)] 32) = v4 at *
  generalize w4.heap.size = s4 at *
  refine (thereB _ v4).mono ?_
  rintro e w5 ⟨rfl, hb⟩
  replace Ia := Lib.hid (Ia.out.below hb)
  replace Ib := Lib.hid (Ib.out.below hb)
  replace Ic := Lib.hid (Ic.out.below hb)
  replace FC := Lib.hid (FC.out.below hb)
  replace BA := Lib.hid (BA.out.below hb)
  replace BB := Lib.hid (BB.out.below hb)
  replace BC := Lib.hid (BC.out.below hb)
  replace BI := Lib.hid (BI.out.below hb)
  replace TB := Lib.hid (bstep TB.out hb)
  clear hb
  have k00 := BA.out.c0
  have k01 := BA.out.c1
  have k02 := BA.out.lt
  have k10 := BB.out.c0
  have k11 := BB.out.c1
  have k12 := BB.out.lt
  go_wp2_with fail
  clear k00 k01 k02 k10 k11 k12
  refine (mmulB _ _ n n n _ _ w5 FC.out BA.out.m BB.out.m MLA.out MLB.out (by omega) (by omega) (by omega) (by omega) (by omega)).mono ?_
  rintro e w6 ⟨x6, rfl, hx, hb⟩
  replace Ia := Lib.hid (Ia.out.below hb)
  replace Ib := Lib.hid (Ib.out.below hb)
  replace Ic := Lib.hid (Ic.out.below hb)
  replace FC := Lib.hid (FC.out.below hb)
  replace BA := Lib.hid (BA.out.below hb)
  replace BB := Lib.hid (BB.out.below hb)
  replace BC := Lib.hid (BC.out.below hb)
  replace BI := Lib.hid (BI.out.below hb)
  replace TB := Lib.hid (bstep TB.out hb)
  have X := Lib.hid hx
  clear hx hb
  have k00 := BB.out.c0
  have k01 := BB.out.c1
  have k02 := BB.out.lt
  have k10 := BC.out.c0
  have k11 := BC.out.c1
  have k12 := BC.out.lt
  go_wp2_with fail
  clear k00 k01 k02 k10 k11 k12
  have hb := (Below.refl w6.heap.size w6).alloc (Nat.le_refl _) (.cells #[(.pointer (some ⟨x6, 0, none⟩)), (.pointer none)] 32)
  have BAB := Lib.hid (BXB.new X.out)
  replace Ia := Lib.hid (Ia.out.below hb)
  replace Ib := Lib.hid (Ib.out.below hb)
  replace Ic := Lib.hid (Ic.out.below hb)
  replace FC := Lib.hid (FC.out.below hb)
  replace BA := Lib.hid (BA.out.below hb)
  replace BB := Lib.hid (BB.out.below hb)
  replace BC := Lib.hid (BC.out.below hb)
  replace BI := Lib.hid (BI.out.below hb)
  replace TB := Lib.hid (bstep TB.out hb)
  clear hb X
  generalize w6.alloc (.cells #[(.pointer (some ⟨x6, 0, none⟩)), (.pointer none)] 32) = v6 at *
  generalize w6.heap.size = s6 at *
  refine (mmulB _ _ n n n _ _ v6 FC.out BB.out.m BC.out.m MLB.out MLC.out (by omega) (by omega) (by omega) (by omega) (by omega)).mono ?_
  rintro e w7 ⟨x7, rfl, hx, hb⟩
  replace Ia := Lib.hid (Ia.out.below hb)
  replace Ib := Lib.hid (Ib.out.below hb)
  replace Ic := Lib.hid (Ic.out.below hb)
  replace FC := Lib.hid (FC.out.below hb)
  replace BA := Lib.hid (BA.out.below hb)
  replace BB := Lib.hid (BB.out.below hb)
  replace BC := Lib.hid (BC.out.below hb)
  replace BI := Lib.hid (BI.out.below hb)
  replace BAB := Lib.hid (BAB.out.below hb)
  replace TB := Lib.hid (bstep TB.out hb)
  have X := Lib.hid hx
  clear hx hb
  have k00 := BA.out.c0
  have k01 := BA.out.c1
  have k02 := BA.out.lt
  have k10 := BI.out.c0
  have k11 := BI.out.c1
  have k12 := BI.out.lt
  go_wp2_with fail
  clear k00 k01 k02 k10 k11 k12
  have hb := (Below.refl w7.heap.size w7).alloc (Nat.le_refl _) (.cells #[(.pointer (some ⟨x7, 0, none⟩)), (.pointer none)] 32)
  have BBC := Lib.hid (BXB.new X.out)
  replace Ia := Lib.hid (Ia.out.below hb)
  replace Ib := Lib.hid (Ib.out.below hb)
  replace Ic := Lib.hid (Ic.out.below hb)
  replace FC := Lib.hid (FC.out.below hb)
  replace BA := Lib.hid (BA.out.below hb)
  replace BB := Lib.hid (BB.out.below hb)
  replace BC := Lib.hid (BC.out.below hb)
  replace BI := Lib.hid (BI.out.below hb)
  replace BAB := Lib.hid (BAB.out.below hb)
  replace TB := Lib.hid (bstep TB.out hb)
  clear hb X
  generalize w7.alloc (.cells #[(.pointer (some ⟨x7, 0, none⟩)), (.pointer none)] 32) = v7 at *
  generalize w7.heap.size = s7 at *
  refine (mmulB _ _ n n n _ _ v7 FC.out BA.out.m BI.out.m MLA.out MLI.out (by omega) (by omega) (by omega) (by omega) (by omega)).mono ?_
  rintro e w8 ⟨x8, rfl, hx, hb⟩
  replace Ia := Lib.hid (Ia.out.below hb)
  replace Ib := Lib.hid (Ib.out.below hb)
  replace Ic := Lib.hid (Ic.out.below hb)
  replace FC := Lib.hid (FC.out.below hb)
  replace BA := Lib.hid (BA.out.below hb)
  replace BB := Lib.hid (BB.out.below hb)
  replace BC := Lib.hid (BC.out.below hb)
  replace BI := Lib.hid (BI.out.below hb)
  replace BAB := Lib.hid (BAB.out.below hb)
  replace BBC := Lib.hid (BBC.out.below hb)
  replace TB := Lib.hid (bstep TB.out hb)
  have X := Lib.hid hx
  clear hx hb
  have k00 := BI.out.c0
  have k01 := BI.out.c1
  have k02 := BI.out.lt
  have k10 := BA.out.c0
  have k11 := BA.out.c1
  have k12 := BA.out.lt
  go_wp2_with fail
  clear k00 k01 k02 k10 k11 k12
  have hb := (Below.refl w8.heap.size w8).alloc (Nat.le_refl _) (.cells #[(.pointer (some ⟨x8, 0, none⟩)), (.pointer none)] 32)
  have BAE := Lib.hid (BXB.new X.out)
  replace Ia := Lib.hid (Ia.out.below hb)
  replace Ib := Lib.hid (Ib.out.below hb)
  replace Ic := Lib.hid (Ic.out.below hb)
  replace FC := Lib.hid (FC.out.below hb)
  replace BA := Lib.hid (BA.out.below hb)
  replace BB := Lib.hid (BB.out.below hb)
  replace BC := Lib.hid (BC.out.below hb)
  replace BI := Lib.hid (BI.out.below hb)
  replace BAB := Lib.hid (BAB.out.below hb)
  replace BBC := Lib.hid (BBC.out.below hb)
  replace TB := Lib.hid (bstep TB.out hb)
  clear hb X
  generalize w8.alloc (.cells #[(.pointer (some ⟨x8, 0, none⟩)), (.pointer none)] 32) = v8 at *
  generalize w8.heap.size = s8 at *
  refine (mmulB _ _ n n n _ _ v8 FC.out BI.out.m BA.out.m MLI.out MLA.out (by omega) (by omega) (by omega) (by omega) (by omega)).mono ?_
  rintro e w9 ⟨x9, rfl, hx, hb⟩
  replace Ia := Lib.hid (Ia.out.below hb)
  replace Ib := Lib.hid (Ib.out.below hb)
  replace Ic := Lib.hid (Ic.out.below hb)
  replace FC := Lib.hid (FC.out.below hb)
  replace BA := Lib.hid (BA.out.below hb)
  replace BB := Lib.hid (BB.out.below hb)
  replace BC := Lib.hid (BC.out.below hb)
  replace BI := Lib.hid (BI.out.below hb)
  replace BAB := Lib.hid (BAB.out.below hb)
  replace BBC := Lib.hid (BBC.out.below hb)
  replace BAE := Lib.hid (BAE.out.below hb)
  replace TB := Lib.hid (bstep TB.out hb)
  have X := Lib.hid hx
  clear hx hb
  have k00 := BAB.out.c0
  have k01 := BAB.out.c1
  have k02 := BAB.out.lt
  go_wp2_with fail
  clear k00 k01 k02
  have hb := (Below.refl w9.heap.size w9).alloc (Nat.le_refl _) (.cells #[(.pointer (some ⟨x9, 0, none⟩)), (.pointer none)] 32)
  have BEA := Lib.hid (BXB.new X.out)
  replace Ia := Lib.hid (Ia.out.below hb)
  replace Ib := Lib.hid (Ib.out.below hb)
  replace Ic := Lib.hid (Ic.out.below hb)
  replace FC := Lib.hid (FC.out.below hb)
  replace BA := Lib.hid (BA.out.below hb)
  replace BB := Lib.hid (BB.out.below hb)
  replace BC := Lib.hid (BC.out.below hb)
  replace BI := Lib.hid (BI.out.below hb)
  replace BAB := Lib.hid (BAB.out.below hb)
  replace BBC := Lib.hid (BBC.out.below hb)
  replace BAE := Lib.hid (BAE.out.below hb)
  replace TB := Lib.hid (bstep TB.out hb)
  clear hb X
  generalize w9.alloc (.cells #[(.pointer (some ⟨x9, 0, none⟩)), (.pointer none)] 32) = v9 at *
  generalize w9.heap.size = s9 at *
  refine (thereB _ v9).mono ?_
  rintro e w10 ⟨rfl, hb⟩
  replace Ia := Lib.hid (Ia.out.below hb)
  replace Ib := Lib.hid (Ib.out.below hb)
  replace Ic := Lib.hid (Ic.out.below hb)
  replace FC := Lib.hid (FC.out.below hb)
  replace BA := Lib.hid (BA.out.below hb)
  replace BB := Lib.hid (BB.out.below hb)
  replace BC := Lib.hid (BC.out.below hb)
  replace BI := Lib.hid (BI.out.below hb)
  replace BAB := Lib.hid (BAB.out.below hb)
  replace BBC := Lib.hid (BBC.out.below hb)
  replace BAE := Lib.hid (BAE.out.below hb)
  replace BEA := Lib.hid (BEA.out.below hb)
  replace TB := Lib.hid (bstep TB.out hb)
  clear hb
  have k00 := BBC.out.c0
  have k01 := BBC.out.c1
  have k02 := BBC.out.lt
  go_wp2_with fail
  clear k00 k01 k02
  refine (thereB _ w10).mono ?_
  rintro e w11 ⟨rfl, hb⟩
  replace Ia := Lib.hid (Ia.out.below hb)
  replace Ib := Lib.hid (Ib.out.below hb)
  replace Ic := Lib.hid (Ic.out.below hb)
  replace FC := Lib.hid (FC.out.below hb)
  replace BA := Lib.hid (BA.out.below hb)
  replace BB := Lib.hid (BB.out.below hb)
  replace BC := Lib.hid (BC.out.below hb)
  replace BI := Lib.hid (BI.out.below hb)
  replace BAB := Lib.hid (BAB.out.below hb)
  replace BBC := Lib.hid (BBC.out.below hb)
  replace BAE := Lib.hid (BAE.out.below hb)
  replace BEA := Lib.hid (BEA.out.below hb)
  replace TB := Lib.hid (bstep TB.out hb)
  clear hb
  have k00 := BAE.out.c0
  have k01 := BAE.out.c1
  have k02 := BAE.out.lt
  go_wp2_with fail
  clear k00 k01 k02
  refine (thereB _ w11).mono ?_
  rintro e w12 ⟨rfl, hb⟩
  replace Ia := Lib.hid (Ia.out.below hb)
  replace Ib := Lib.hid (Ib.out.below hb)
  replace Ic := Lib.hid (Ic.out.below hb)
  replace FC := Lib.hid (FC.out.below hb)
  replace BA := Lib.hid (BA.out.below hb)
  replace BB := Lib.hid (BB.out.below hb)
  replace BC := Lib.hid (BC.out.below hb)
  replace BI := Lib.hid (BI.out.below hb)
  replace BAB := Lib.hid (BAB.out.below hb)
  replace BBC := Lib.hid (BBC.out.below hb)
  replace BAE := Lib.hid (BAE.out.below hb)
  replace BEA := Lib.hid (BEA.out.below hb)
  replace TB := Lib.hid (bstep TB.out hb)
  clear hb
  have k00 := BEA.out.c0
  have k01 := BEA.out.c1
  have k02 := BEA.out.lt
  go_wp2_with fail
  clear k00 k01 k02
  refine (thereB _ w12).mono ?_
  rintro e w13 ⟨rfl, hb⟩
  replace Ia := Lib.hid (Ia.out.below hb)
  replace Ib := Lib.hid (Ib.out.below hb)
  replace Ic := Lib.hid (Ic.out.below hb)
  replace FC := Lib.hid (FC.out.below hb)
  replace BA := Lib.hid (BA.out.below hb)
  replace BB := Lib.hid (BB.out.below hb)
  replace BC := Lib.hid (BC.out.below hb)
  replace BI := Lib.hid (BI.out.below hb)
  replace BAB := Lib.hid (BAB.out.below hb)
  replace BBC := Lib.hid (BBC.out.below hb)
  replace BAE := Lib.hid (BAE.out.below hb)
  replace BEA := Lib.hid (BEA.out.below hb)
  replace TB := Lib.hid (bstep TB.out hb)
  clear hb
  have k00 := BAB.out.c0
  have k01 := BAB.out.c1
  have k02 := BAB.out.lt
  have k10 := BC.out.c0
  have k11 := BC.out.c1
  have k12 := BC.out.lt
  go_wp2_with fail
  clear k00 k01 k02 k10 k11 k12
  refine (mmulB _ _ n n n _ _ w13 FC.out BAB.out.m BC.out.m MLAB.out MLC.out (by omega) (by omega) (by omega) (by omega) (by omega)).mono ?_
  rintro e w14 ⟨x14, rfl, hx, hb⟩
  replace Ia := Lib.hid (Ia.out.below hb)
  replace Ib := Lib.hid (Ib.out.below hb)
  replace Ic := Lib.hid (Ic.out.below hb)
  replace FC := Lib.hid (FC.out.below hb)
  replace BA := Lib.hid (BA.out.below hb)
  replace BB := Lib.hid (BB.out.below hb)
  replace BC := Lib.hid (BC.out.below hb)
  replace BI := Lib.hid (BI.out.below hb)
  replace BAB := Lib.hid (BAB.out.below hb)
  replace BBC := Lib.hid (BBC.out.below hb)
  replace BAE := Lib.hid (BAE.out.below hb)
  replace BEA := Lib.hid (BEA.out.below hb)
  replace TB := Lib.hid (bstep TB.out hb)
  have X := Lib.hid hx
  clear hx hb
  have k00 := BA.out.c0
  have k01 := BA.out.c1
  have k02 := BA.out.lt
  have k10 := BBC.out.c0
  have k11 := BBC.out.c1
  have k12 := BBC.out.lt
  go_wp2_with fail
  clear k00 k01 k02 k10 k11 k12
  have hb := (Below.refl w14.heap.size w14).alloc (Nat.le_refl _) (.cells #[(.pointer (some ⟨x14, 0, none⟩)), (.pointer none)] 32)
  have BX := Lib.hid (BXB.new X.out)
  replace Ia := Lib.hid (Ia.out.below hb)
  replace Ib := Lib.hid (Ib.out.below hb)
  replace Ic := Lib.hid (Ic.out.below hb)
  replace FC := Lib.hid (FC.out.below hb)
  replace BA := Lib.hid (BA.out.below hb)
  replace BB := Lib.hid (BB.out.below hb)
  replace BC := Lib.hid (BC.out.below hb)
  replace BI := Lib.hid (BI.out.below hb)
  replace BAB := Lib.hid (BAB.out.below hb)
  replace BBC := Lib.hid (BBC.out.below hb)
  replace BAE := Lib.hid (BAE.out.below hb)
  replace BEA := Lib.hid (BEA.out.below hb)
  replace TB := Lib.hid (bstep TB.out hb)
  clear hb X
  generalize w14.alloc (.cells #[(.pointer (some ⟨x14, 0, none⟩)), (.pointer none)] 32) = v14 at *
  generalize w14.heap.size = s14 at *
  refine (mmulB _ _ n n n _ _ v14 FC.out BA.out.m BBC.out.m MLA.out MLBC.out (by omega) (by omega) (by omega) (by omega) (by omega)).mono ?_
  rintro e w15 ⟨x15, rfl, hx, hb⟩
  replace Ia := Lib.hid (Ia.out.below hb)
  replace Ib := Lib.hid (Ib.out.below hb)
  replace Ic := Lib.hid (Ic.out.below hb)
  replace FC := Lib.hid (FC.out.below hb)
  replace BA := Lib.hid (BA.out.below hb)
  replace BB := Lib.hid (BB.out.below hb)
  replace BC := Lib.hid (BC.out.below hb)
  replace BI := Lib.hid (BI.out.below hb)
  replace BAB := Lib.hid (BAB.out.below hb)
  replace BBC := Lib.hid (BBC.out.below hb)
  replace BAE := Lib.hid (BAE.out.below hb)
  replace BEA := Lib.hid (BEA.out.below hb)
  replace BX := Lib.hid (BX.out.below hb)
  replace TB := Lib.hid (bstep TB.out hb)
  have X := Lib.hid hx
  clear hx hb
  have k00 := BX.out.c0
  have k01 := BX.out.c1
  have k02 := BX.out.lt
  go_wp2_with fail
  clear k00 k01 k02
  have hb := (Below.refl w15.heap.size w15).alloc (Nat.le_refl _) (.cells #[(.pointer (some ⟨x15, 0, none⟩)), (.pointer none)] 32)
  have BY := Lib.hid (BXB.new X.out)
  replace Ia := Lib.hid (Ia.out.below hb)
  replace Ib := Lib.hid (Ib.out.below hb)
  replace Ic := Lib.hid (Ic.out.below hb)
  replace FC := Lib.hid (FC.out.below hb)
  replace BA := Lib.hid (BA.out.below hb)
  replace BB := Lib.hid (BB.out.below hb)
  replace BC := Lib.hid (BC.out.below hb)
  replace BI := Lib.hid (BI.out.below hb)
  replace BAB := Lib.hid (BAB.out.below hb)
  replace BBC := Lib.hid (BBC.out.below hb)
  replace BAE := Lib.hid (BAE.out.below hb)
  replace BEA := Lib.hid (BEA.out.below hb)
  replace BX := Lib.hid (BX.out.below hb)
  replace TB := Lib.hid (bstep TB.out hb)
  clear hb X
  generalize w15.alloc (.cells #[(.pointer (some ⟨x15, 0, none⟩)), (.pointer none)] 32) = v15 at *
  generalize w15.heap.size = s15 at *
  refine (thereB _ v15).mono ?_
  rintro e w16 ⟨rfl, hb⟩
  replace Ia := Lib.hid (Ia.out.below hb)
  replace Ib := Lib.hid (Ib.out.below hb)
  replace Ic := Lib.hid (Ic.out.below hb)
  replace FC := Lib.hid (FC.out.below hb)
  replace BA := Lib.hid (BA.out.below hb)
  replace BB := Lib.hid (BB.out.below hb)
  replace BC := Lib.hid (BC.out.below hb)
  replace BI := Lib.hid (BI.out.below hb)
  replace BAB := Lib.hid (BAB.out.below hb)
  replace BBC := Lib.hid (BBC.out.below hb)
  replace BAE := Lib.hid (BAE.out.below hb)
  replace BEA := Lib.hid (BEA.out.below hb)
  replace BX := Lib.hid (BX.out.below hb)
  replace BY := Lib.hid (BY.out.below hb)
  replace TB := Lib.hid (bstep TB.out hb)
  clear hb
  have k00 := BY.out.c0
  have k01 := BY.out.c1
  have k02 := BY.out.lt
  go_wp2_with fail
  clear k00 k01 k02
  refine (thereB _ w16).mono ?_
  rintro e w17 ⟨rfl, hb⟩
  replace Ia := Lib.hid (Ia.out.below hb)
  replace Ib := Lib.hid (Ib.out.below hb)
  replace Ic := Lib.hid (Ic.out.below hb)
  replace FC := Lib.hid (FC.out.below hb)
  replace BA := Lib.hid (BA.out.below hb)
  replace BB := Lib.hid (BB.out.below hb)
  replace BC := Lib.hid (BC.out.below hb)
  replace BI := Lib.hid (BI.out.below hb)
  replace BAB := Lib.hid (BAB.out.below hb)
  replace BBC := Lib.hid (BBC.out.below hb)
  replace BAE := Lib.hid (BAE.out.below hb)
  replace BEA := Lib.hid (BEA.out.below hb)
  replace BX := Lib.hid (BX.out.below hb)
  replace BY := Lib.hid (BY.out.below hb)
  replace TB := Lib.hid (bstep TB.out hb)
  clear hb
  have k00 := BX.out.c0
  have k01 := BX.out.c1
  have k02 := BX.out.lt
  have k10 := BY.out.c0
  have k11 := BY.out.c1
  have k12 := BY.out.lt
  go_wp2_with fail
  clear k00 k01 k02 k10 k11 k12
  refine (msameB 81 (.agg #[]) _ _ n n n _ _ w17 (by omega) (by omega) (by omega) BX.out.m BY.out.m).mono ?_
  rintro e w18 ⟨rfl, hb⟩
  replace Ia := Lib.hid (Ia.out.below hb)
  replace Ib := Lib.hid (Ib.out.below hb)
  replace Ic := Lib.hid (Ic.out.below hb)
  replace FC := Lib.hid (FC.out.below hb)
  replace BA := Lib.hid (BA.out.below hb)
  replace BB := Lib.hid (BB.out.below hb)
  replace BC := Lib.hid (BC.out.below hb)
  replace BI := Lib.hid (BI.out.below hb)
  replace BAB := Lib.hid (BAB.out.below hb)
  replace BBC := Lib.hid (BBC.out.below hb)
  replace BAE := Lib.hid (BAE.out.below hb)
  replace BEA := Lib.hid (BEA.out.below hb)
  replace BX := Lib.hid (BX.out.below hb)
  replace BY := Lib.hid (BY.out.below hb)
  replace TB := Lib.hid (bstep TB.out hb)
  clear hb
  rw [W1.out]
  have k00 := BAE.out.c0
  have k01 := BAE.out.c1
  have k02 := BAE.out.lt
  have k10 := BA.out.c0
  have k11 := BA.out.c1
  have k12 := BA.out.lt
  go_wp2_with fail
  clear k00 k01 k02 k10 k11 k12
  refine (msameB 81 (.agg #[]) _ _ n n n _ _ w18 (by omega) (by omega) (by omega) BAE.out.m BA.out.m).mono ?_
  rintro e w19 ⟨rfl, hb⟩
  replace Ia := Lib.hid (Ia.out.below hb)
  replace Ib := Lib.hid (Ib.out.below hb)
  replace Ic := Lib.hid (Ic.out.below hb)
  replace FC := Lib.hid (FC.out.below hb)
  replace BA := Lib.hid (BA.out.below hb)
  replace BB := Lib.hid (BB.out.below hb)
  replace BC := Lib.hid (BC.out.below hb)
  replace BI := Lib.hid (BI.out.below hb)
  replace BAB := Lib.hid (BAB.out.below hb)
  replace BBC := Lib.hid (BBC.out.below hb)
  replace BAE := Lib.hid (BAE.out.below hb)
  replace BEA := Lib.hid (BEA.out.below hb)
  replace BX := Lib.hid (BX.out.below hb)
  replace BY := Lib.hid (BY.out.below hb)
  replace TB := Lib.hid (bstep TB.out hb)
  clear hb
  rw [W2.out]
  have k00 := BEA.out.c0
  have k01 := BEA.out.c1
  have k02 := BEA.out.lt
  have k10 := BA.out.c0
  have k11 := BA.out.c1
  have k12 := BA.out.lt
  go_wp2_with fail
  clear k00 k01 k02 k10 k11 k12
  refine (msameB 81 (.agg #[]) _ _ n n n _ _ w19 (by omega) (by omega) (by omega) BEA.out.m BA.out.m).mono ?_
  rintro e w20 ⟨rfl, hb⟩
  replace Ia := Lib.hid (Ia.out.below hb)
  replace Ib := Lib.hid (Ib.out.below hb)
  replace Ic := Lib.hid (Ic.out.below hb)
  replace FC := Lib.hid (FC.out.below hb)
  replace BA := Lib.hid (BA.out.below hb)
  replace BB := Lib.hid (BB.out.below hb)
  replace BC := Lib.hid (BC.out.below hb)
  replace BI := Lib.hid (BI.out.below hb)
  replace BAB := Lib.hid (BAB.out.below hb)
  replace BBC := Lib.hid (BBC.out.below hb)
  replace BAE := Lib.hid (BAE.out.below hb)
  replace BEA := Lib.hid (BEA.out.below hb)
  replace BX := Lib.hid (BX.out.below hb)
  replace BY := Lib.hid (BY.out.below hb)
  replace TB := Lib.hid (bstep TB.out hb)
  clear hb
  rw [W3.out]
  have k00 := BA.out.c0
  have k01 := BA.out.c1
  have k02 := BA.out.lt
  go_wp2_with fail
  clear k00 k01 k02
  have RK := Lib.hid (lawRank (n := n) LAW.out LA.out LB.out)
  by_cases ha : rkN gfOps n MA < n
  · by_cases hb' : rkN gfOps n MB < n
    · have HA := Lib.hid ha
      have HB := Lib.hid hb'
      have HAB := Lib.hid (show rkN gfOps n (mulN gfOps n MA MB) < n from RK.out.2 (Or.inl ha))
      clear ha hb'
      refine (minverseB _ n _ w20 FC.out BA.out.m MLA.out (by omega) (by omega)).mono ?_
      rintro e w21 ⟨hb, hif⟩
      replace Ia := Lib.hid (Ia.out.below hb)
      replace Ib := Lib.hid (Ib.out.below hb)
      replace Ic := Lib.hid (Ic.out.below hb)
      replace FC := Lib.hid (FC.out.below hb)
      replace BA := Lib.hid (BA.out.below hb)
      replace BB := Lib.hid (BB.out.below hb)
      replace BC := Lib.hid (BC.out.below hb)
      replace BI := Lib.hid (BI.out.below hb)
      replace BAB := Lib.hid (BAB.out.below hb)
      replace BBC := Lib.hid (BBC.out.below hb)
      replace BAE := Lib.hid (BAE.out.below hb)
      replace BEA := Lib.hid (BEA.out.below hb)
      replace BX := Lib.hid (BX.out.below hb)
      replace BY := Lib.hid (BY.out.below hb)
      replace TB := Lib.hid (bstep TB.out hb)
      clear hb
      replace hif := Eq.mp (if_pos HA.out) hif
      subst hif
      have k00 := BB.out.c0
      have k01 := BB.out.c1
      have k02 := BB.out.lt
      go_wp2_with fail
      clear k00 k01 k02
      have hb := (Below.refl w21.heap.size w21).alloc (Nat.le_refl _) (.cells #[.pointer none, .pointer none] 32)
      replace Ia := Lib.hid (Ia.out.below hb)
      replace Ib := Lib.hid (Ib.out.below hb)
      replace Ic := Lib.hid (Ic.out.below hb)
      replace FC := Lib.hid (FC.out.below hb)
      replace BA := Lib.hid (BA.out.below hb)
      replace BB := Lib.hid (BB.out.below hb)
      replace BC := Lib.hid (BC.out.below hb)
      replace BI := Lib.hid (BI.out.below hb)
      replace BAB := Lib.hid (BAB.out.below hb)
      replace BBC := Lib.hid (BBC.out.below hb)
      replace BAE := Lib.hid (BAE.out.below hb)
      replace BEA := Lib.hid (BEA.out.below hb)
      replace BX := Lib.hid (BX.out.below hb)
      replace BY := Lib.hid (BY.out.below hb)
      replace TB := Lib.hid (bstep TB.out hb)
      clear hb
      generalize w21.alloc (.cells #[.pointer none, .pointer none] 32) = v21 at *
      generalize w21.heap.size = s21 at *
      refine (minverseB _ n _ v21 FC.out BB.out.m MLB.out (by omega) (by omega)).mono ?_
      rintro e w22 ⟨hb, hif⟩
      replace Ia := Lib.hid (Ia.out.below hb)
      replace Ib := Lib.hid (Ib.out.below hb)
      replace Ic := Lib.hid (Ic.out.below hb)
      replace FC := Lib.hid (FC.out.below hb)
      replace BA := Lib.hid (BA.out.below hb)
      replace BB := Lib.hid (BB.out.below hb)
      replace BC := Lib.hid (BC.out.below hb)
      replace BI := Lib.hid (BI.out.below hb)
      replace BAB := Lib.hid (BAB.out.below hb)
      replace BBC := Lib.hid (BBC.out.below hb)
      replace BAE := Lib.hid (BAE.out.below hb)
      replace BEA := Lib.hid (BEA.out.below hb)
      replace BX := Lib.hid (BX.out.below hb)
      replace BY := Lib.hid (BY.out.below hb)
      replace TB := Lib.hid (bstep TB.out hb)
      clear hb
      replace hif := Eq.mp (if_pos HB.out) hif
      subst hif
      have k00 := BAB.out.c0
      have k01 := BAB.out.c1
      have k02 := BAB.out.lt
      go_wp2_with fail
      clear k00 k01 k02
      have hb := (Below.refl w22.heap.size w22).alloc (Nat.le_refl _) (.cells #[.pointer none, .pointer none] 32)
      replace Ia := Lib.hid (Ia.out.below hb)
      replace Ib := Lib.hid (Ib.out.below hb)
      replace Ic := Lib.hid (Ic.out.below hb)
      replace FC := Lib.hid (FC.out.below hb)
      replace BA := Lib.hid (BA.out.below hb)
      replace BB := Lib.hid (BB.out.below hb)
      replace BC := Lib.hid (BC.out.below hb)
      replace BI := Lib.hid (BI.out.below hb)
      replace BAB := Lib.hid (BAB.out.below hb)
      replace BBC := Lib.hid (BBC.out.below hb)
      replace BAE := Lib.hid (BAE.out.below hb)
      replace BEA := Lib.hid (BEA.out.below hb)
      replace BX := Lib.hid (BX.out.below hb)
      replace BY := Lib.hid (BY.out.below hb)
      replace TB := Lib.hid (bstep TB.out hb)
      clear hb
      generalize w22.alloc (.cells #[.pointer none, .pointer none] 32) = v22 at *
      generalize w22.heap.size = s22 at *
      refine (minverseB _ n _ v22 FC.out BAB.out.m MLAB.out (by omega) (by omega)).mono ?_
      rintro e w23 ⟨hb, hif⟩
      replace hif := Eq.mp (if_pos HAB.out) hif
      subst hif
      replace TB := Lib.hid (bstep TB.out hb)
      clear hb
      go_wp2
      go_ret
      exact ⟨rfl, bstep TB.out ((Below.refl _ _).alloc (Nat.le_refl _) _)⟩
    · have HA := Lib.hid ha
      have HB := Lib.hid hb'
      have HAB := Lib.hid (show rkN gfOps n (mulN gfOps n MA MB) < n from RK.out.2 (Or.inl ha))
      clear ha hb'
      refine (minverseB _ n _ w20 FC.out BA.out.m MLA.out (by omega) (by omega)).mono ?_
      rintro e w21 ⟨hb, hif⟩
      replace Ia := Lib.hid (Ia.out.below hb)
      replace Ib := Lib.hid (Ib.out.below hb)
      replace Ic := Lib.hid (Ic.out.below hb)
      replace FC := Lib.hid (FC.out.below hb)
      replace BA := Lib.hid (BA.out.below hb)
      replace BB := Lib.hid (BB.out.below hb)
      replace BC := Lib.hid (BC.out.below hb)
      replace BI := Lib.hid (BI.out.below hb)
      replace BAB := Lib.hid (BAB.out.below hb)
      replace BBC := Lib.hid (BBC.out.below hb)
      replace BAE := Lib.hid (BAE.out.below hb)
      replace BEA := Lib.hid (BEA.out.below hb)
      replace BX := Lib.hid (BX.out.below hb)
      replace BY := Lib.hid (BY.out.below hb)
      replace TB := Lib.hid (bstep TB.out hb)
      clear hb
      replace hif := Eq.mp (if_pos HA.out) hif
      subst hif
      have k00 := BB.out.c0
      have k01 := BB.out.c1
      have k02 := BB.out.lt
      go_wp2_with fail
      clear k00 k01 k02
      have hb := (Below.refl w21.heap.size w21).alloc (Nat.le_refl _) (.cells #[.pointer none, .pointer none] 32)
      replace Ia := Lib.hid (Ia.out.below hb)
      replace Ib := Lib.hid (Ib.out.below hb)
      replace Ic := Lib.hid (Ic.out.below hb)
      replace FC := Lib.hid (FC.out.below hb)
      replace BA := Lib.hid (BA.out.below hb)
      replace BB := Lib.hid (BB.out.below hb)
      replace BC := Lib.hid (BC.out.below hb)
      replace BI := Lib.hid (BI.out.below hb)
      replace BAB := Lib.hid (BAB.out.below hb)
      replace BBC := Lib.hid (BBC.out.below hb)
      replace BAE := Lib.hid (BAE.out.below hb)
      replace BEA := Lib.hid (BEA.out.below hb)
      replace BX := Lib.hid (BX.out.below hb)
      replace BY := Lib.hid (BY.out.below hb)
      replace TB := Lib.hid (bstep TB.out hb)
      clear hb
      generalize w21.alloc (.cells #[.pointer none, .pointer none] 32) = v21 at *
      generalize w21.heap.size = s21 at *
      refine (minverseB _ n _ v21 FC.out BB.out.m MLB.out (by omega) (by omega)).mono ?_
      rintro e w22 ⟨hb, hif⟩
      replace Ia := Lib.hid (Ia.out.below hb)
      replace Ib := Lib.hid (Ib.out.below hb)
      replace Ic := Lib.hid (Ic.out.below hb)
      replace FC := Lib.hid (FC.out.below hb)
      replace BA := Lib.hid (BA.out.below hb)
      replace BB := Lib.hid (BB.out.below hb)
      replace BC := Lib.hid (BC.out.below hb)
      replace BI := Lib.hid (BI.out.below hb)
      replace BAB := Lib.hid (BAB.out.below hb)
      replace BBC := Lib.hid (BBC.out.below hb)
      replace BAE := Lib.hid (BAE.out.below hb)
      replace BEA := Lib.hid (BEA.out.below hb)
      replace BX := Lib.hid (BX.out.below hb)
      replace BY := Lib.hid (BY.out.below hb)
      replace TB := Lib.hid (bstep TB.out hb)
      clear hb
      replace hif := Eq.mp (if_neg HB.out) hif
      obtain ⟨x22, rfl, hx⟩ := hif
      have X := Lib.hid hx
      clear hx
      have k00 := BAB.out.c0
      have k01 := BAB.out.c1
      have k02 := BAB.out.lt
      go_wp2_with fail
      clear k00 k01 k02
      have hb := (Below.refl w22.heap.size w22).alloc (Nat.le_refl _) (.cells #[(.pointer (some ⟨x22, 0, none⟩)), (.pointer none)] 32)
      have JB := Lib.hid (BXB.new X.out)
      replace Ia := Lib.hid (Ia.out.below hb)
      replace Ib := Lib.hid (Ib.out.below hb)
      replace Ic := Lib.hid (Ic.out.below hb)
      replace FC := Lib.hid (FC.out.below hb)
      replace BA := Lib.hid (BA.out.below hb)
      replace BB := Lib.hid (BB.out.below hb)
      replace BC := Lib.hid (BC.out.below hb)
      replace BI := Lib.hid (BI.out.below hb)
      replace BAB := Lib.hid (BAB.out.below hb)
      replace BBC := Lib.hid (BBC.out.below hb)
      replace BAE := Lib.hid (BAE.out.below hb)
      replace BEA := Lib.hid (BEA.out.below hb)
      replace BX := Lib.hid (BX.out.below hb)
      replace BY := Lib.hid (BY.out.below hb)
      replace TB := Lib.hid (bstep TB.out hb)
      clear hb X
      generalize w22.alloc (.cells #[(.pointer (some ⟨x22, 0, none⟩)), (.pointer none)] 32) = v22 at *
      generalize w22.heap.size = s22 at *
      refine (minverseB _ n _ v22 FC.out BAB.out.m MLAB.out (by omega) (by omega)).mono ?_
      rintro e w23 ⟨hb, hif⟩
      replace hif := Eq.mp (if_pos HAB.out) hif
      subst hif
      replace TB := Lib.hid (bstep TB.out hb)
      clear hb
      go_wp2
      go_ret
      exact ⟨rfl, bstep TB.out ((Below.refl _ _).alloc (Nat.le_refl _) _)⟩
  · by_cases hb' : rkN gfOps n MB < n
    · have HA := Lib.hid ha
      have HB := Lib.hid hb'
      have HAB := Lib.hid (show rkN gfOps n (mulN gfOps n MA MB) < n from RK.out.2 (Or.inr hb'))
      clear ha hb'
      refine (minverseB _ n _ w20 FC.out BA.out.m MLA.out (by omega) (by omega)).mono ?_
      rintro e w21 ⟨hb, hif⟩
      replace Ia := Lib.hid (Ia.out.below hb)
      replace Ib := Lib.hid (Ib.out.below hb)
      replace Ic := Lib.hid (Ic.out.below hb)
      replace FC := Lib.hid (FC.out.below hb)
      replace BA := Lib.hid (BA.out.below hb)
      replace BB := Lib.hid (BB.out.below hb)
      replace BC := Lib.hid (BC.out.below hb)
      replace BI := Lib.hid (BI.out.below hb)
      replace BAB := Lib.hid (BAB.out.below hb)
      replace BBC := Lib.hid (BBC.out.below hb)
      replace BAE := Lib.hid (BAE.out.below hb)
      replace BEA := Lib.hid (BEA.out.below hb)
      replace BX := Lib.hid (BX.out.below hb)
      replace BY := Lib.hid (BY.out.below hb)
      replace TB := Lib.hid (bstep TB.out hb)
      clear hb
      replace hif := Eq.mp (if_neg HA.out) hif
      obtain ⟨x21, rfl, hx⟩ := hif
      have X := Lib.hid hx
      clear hx
      have k00 := BB.out.c0
      have k01 := BB.out.c1
      have k02 := BB.out.lt
      go_wp2_with fail
      clear k00 k01 k02
      have hb := (Below.refl w21.heap.size w21).alloc (Nat.le_refl _) (.cells #[(.pointer (some ⟨x21, 0, none⟩)), (.pointer none)] 32)
      have JA := Lib.hid (BXB.new X.out)
      replace Ia := Lib.hid (Ia.out.below hb)
      replace Ib := Lib.hid (Ib.out.below hb)
      replace Ic := Lib.hid (Ic.out.below hb)
      replace FC := Lib.hid (FC.out.below hb)
      replace BA := Lib.hid (BA.out.below hb)
      replace BB := Lib.hid (BB.out.below hb)
      replace BC := Lib.hid (BC.out.below hb)
      replace BI := Lib.hid (BI.out.below hb)
      replace BAB := Lib.hid (BAB.out.below hb)
      replace BBC := Lib.hid (BBC.out.below hb)
      replace BAE := Lib.hid (BAE.out.below hb)
      replace BEA := Lib.hid (BEA.out.below hb)
      replace BX := Lib.hid (BX.out.below hb)
      replace BY := Lib.hid (BY.out.below hb)
      replace TB := Lib.hid (bstep TB.out hb)
      clear hb X
      generalize w21.alloc (.cells #[(.pointer (some ⟨x21, 0, none⟩)), (.pointer none)] 32) = v21 at *
      generalize w21.heap.size = s21 at *
      refine (minverseB _ n _ v21 FC.out BB.out.m MLB.out (by omega) (by omega)).mono ?_
      rintro e w22 ⟨hb, hif⟩
      replace Ia := Lib.hid (Ia.out.below hb)
      replace Ib := Lib.hid (Ib.out.below hb)
      replace Ic := Lib.hid (Ic.out.below hb)
      replace FC := Lib.hid (FC.out.below hb)
      replace BA := Lib.hid (BA.out.below hb)
      replace BB := Lib.hid (BB.out.below hb)
      replace BC := Lib.hid (BC.out.below hb)
      replace BI := Lib.hid (BI.out.below hb)
      replace BAB := Lib.hid (BAB.out.below hb)
      replace BBC := Lib.hid (BBC.out.below hb)
      replace BAE := Lib.hid (BAE.out.below hb)
      replace BEA := Lib.hid (BEA.out.below hb)
      replace BX := Lib.hid (BX.out.below hb)
      replace BY := Lib.hid (BY.out.below hb)
      replace JA := Lib.hid (JA.out.below hb)
      replace TB := Lib.hid (bstep TB.out hb)
      clear hb
      replace hif := Eq.mp (if_pos HB.out) hif
      subst hif
      have k00 := BAB.out.c0
      have k01 := BAB.out.c1
      have k02 := BAB.out.lt
      go_wp2_with fail
      clear k00 k01 k02
      have hb := (Below.refl w22.heap.size w22).alloc (Nat.le_refl _) (.cells #[.pointer none, .pointer none] 32)
      replace Ia := Lib.hid (Ia.out.below hb)
      replace Ib := Lib.hid (Ib.out.below hb)
      replace Ic := Lib.hid (Ic.out.below hb)
      replace FC := Lib.hid (FC.out.below hb)
      replace BA := Lib.hid (BA.out.below hb)
      replace BB := Lib.hid (BB.out.below hb)
      replace BC := Lib.hid (BC.out.below hb)
      replace BI := Lib.hid (BI.out.below hb)
      replace BAB := Lib.hid (BAB.out.below hb)
      replace BBC := Lib.hid (BBC.out.below hb)
      replace BAE := Lib.hid (BAE.out.below hb)
      replace BEA := Lib.hid (BEA.out.below hb)
      replace BX := Lib.hid (BX.out.below hb)
      replace BY := Lib.hid (BY.out.below hb)
      replace JA := Lib.hid (JA.out.below hb)
      replace TB := Lib.hid (bstep TB.out hb)
      clear hb
      generalize w22.alloc (.cells #[.pointer none, .pointer none] 32) = v22 at *
      generalize w22.heap.size = s22 at *
      refine (minverseB _ n _ v22 FC.out BAB.out.m MLAB.out (by omega) (by omega)).mono ?_
      rintro e w23 ⟨hb, hif⟩
      replace hif := Eq.mp (if_pos HAB.out) hif
      subst hif
      replace TB := Lib.hid (bstep TB.out hb)
      clear hb
      go_wp2
      go_ret
      exact ⟨rfl, bstep TB.out ((Below.refl _ _).alloc (Nat.le_refl _) _)⟩
    · have HA := Lib.hid ha
      have HB := Lib.hid hb'
      have HAB := Lib.hid (show ¬ rkN gfOps n (mulN gfOps n MA MB) < n from fun h => (RK.out.1 h).elim ha hb')
      clear ha hb'
      refine (minverseB _ n _ w20 FC.out BA.out.m MLA.out (by omega) (by omega)).mono ?_
      rintro e w21 ⟨hb, hif⟩
      replace Ia := Lib.hid (Ia.out.below hb)
      replace Ib := Lib.hid (Ib.out.below hb)
      replace Ic := Lib.hid (Ic.out.below hb)
      replace FC := Lib.hid (FC.out.below hb)
      replace BA := Lib.hid (BA.out.below hb)
      replace BB := Lib.hid (BB.out.below hb)
      replace BC := Lib.hid (BC.out.below hb)
      replace BI := Lib.hid (BI.out.below hb)
      replace BAB := Lib.hid (BAB.out.below hb)
      replace BBC := Lib.hid (BBC.out.below hb)
      replace BAE := Lib.hid (BAE.out.below hb)
      replace BEA := Lib.hid (BEA.out.below hb)
      replace BX := Lib.hid (BX.out.below hb)
      replace BY := Lib.hid (BY.out.below hb)
      replace TB := Lib.hid (bstep TB.out hb)
      clear hb
      replace hif := Eq.mp (if_neg HA.out) hif
      obtain ⟨x21, rfl, hx⟩ := hif
      have X := Lib.hid hx
      clear hx
      have k00 := BB.out.c0
      have k01 := BB.out.c1
      have k02 := BB.out.lt
      go_wp2_with fail
      clear k00 k01 k02
      have hb := (Below.refl w21.heap.size w21).alloc (Nat.le_refl _) (.cells #[(.pointer (some ⟨x21, 0, none⟩)), (.pointer none)] 32)
      have JA := Lib.hid (BXB.new X.out)
      replace Ia := Lib.hid (Ia.out.below hb)
      replace Ib := Lib.hid (Ib.out.below hb)
      replace Ic := Lib.hid (Ic.out.below hb)
      replace FC := Lib.hid (FC.out.below hb)
      replace BA := Lib.hid (BA.out.below hb)
      replace BB := Lib.hid (BB.out.below hb)
      replace BC := Lib.hid (BC.out.below hb)
      replace BI := Lib.hid (BI.out.below hb)
      replace BAB := Lib.hid (BAB.out.below hb)
      replace BBC := Lib.hid (BBC.out.below hb)
      replace BAE := Lib.hid (BAE.out.below hb)
      replace BEA := Lib.hid (BEA.out.below hb)
      replace BX := Lib.hid (BX.out.below hb)
      replace BY := Lib.hid (BY.out.below hb)
      replace TB := Lib.hid (bstep TB.out hb)
      clear hb X
      generalize w21.alloc (.cells #[(.pointer (some ⟨x21, 0, none⟩)), (.pointer none)] 32) = v21 at *
      generalize w21.heap.size = s21 at *
      refine (minverseB _ n _ v21 FC.out BB.out.m MLB.out (by omega) (by omega)).mono ?_
      rintro e w22 ⟨hb, hif⟩
      replace Ia := Lib.hid (Ia.out.below hb)
      replace Ib := Lib.hid (Ib.out.below hb)
      replace Ic := Lib.hid (Ic.out.below hb)
      replace FC := Lib.hid (FC.out.below hb)
      replace BA := Lib.hid (BA.out.below hb)
      replace BB := Lib.hid (BB.out.below hb)
      replace BC := Lib.hid (BC.out.below hb)
      replace BI := Lib.hid (BI.out.below hb)
      replace BAB := Lib.hid (BAB.out.below hb)
      replace BBC := Lib.hid (BBC.out.below hb)
      replace BAE := Lib.hid (BAE.out.below hb)
      replace BEA := Lib.hid (BEA.out.below hb)
      replace BX := Lib.hid (BX.out.below hb)
      replace BY := Lib.hid (BY.out.below hb)
      replace JA := Lib.hid (JA.out.below hb)
      replace TB := Lib.hid (bstep TB.out hb)
      clear hb
      replace hif := Eq.mp (if_neg HB.out) hif
      obtain ⟨x22, rfl, hx⟩ := hif
      have X := Lib.hid hx
      clear hx
      have k00 := BAB.out.c0
      have k01 := BAB.out.c1
      have k02 := BAB.out.lt
      go_wp2_with fail
      clear k00 k01 k02
      have hb := (Below.refl w22.heap.size w22).alloc (Nat.le_refl _) (.cells #[(.pointer (some ⟨x22, 0, none⟩)), (.pointer none)] 32)
      have JB := Lib.hid (BXB.new X.out)
      replace Ia := Lib.hid (Ia.out.below hb)
      replace Ib := Lib.hid (Ib.out.below hb)
      replace Ic := Lib.hid (Ic.out.below hb)
      replace FC := Lib.hid (FC.out.below hb)
      replace BA := Lib.hid (BA.out.below hb)
      replace BB := Lib.hid (BB.out.below hb)
      replace BC := Lib.hid (BC.out.below hb)
      replace BI := Lib.hid (BI.out.below hb)
      replace BAB := Lib.hid (BAB.out.below hb)
      replace BBC := Lib.hid (BBC.out.below hb)
      replace BAE := Lib.hid (BAE.out.below hb)
      replace BEA := Lib.hid (BEA.out.below hb)
      replace BX := Lib.hid (BX.out.below hb)
      replace BY := Lib.hid (BY.out.below hb)
      replace JA := Lib.hid (JA.out.below hb)
      replace TB := Lib.hid (bstep TB.out hb)
      clear hb X
      generalize w22.alloc (.cells #[(.pointer (some ⟨x22, 0, none⟩)), (.pointer none)] 32) = v22 at *
      generalize w22.heap.size = s22 at *
      refine (minverseB _ n _ v22 FC.out BAB.out.m MLAB.out (by omega) (by omega)).mono ?_
      rintro e w23 ⟨hb, hif⟩
      replace Ia := Lib.hid (Ia.out.below hb)
      replace Ib := Lib.hid (Ib.out.below hb)
      replace Ic := Lib.hid (Ic.out.below hb)
      replace FC := Lib.hid (FC.out.below hb)
      replace BA := Lib.hid (BA.out.below hb)
      replace BB := Lib.hid (BB.out.below hb)
      replace BC := Lib.hid (BC.out.below hb)
      replace BI := Lib.hid (BI.out.below hb)
      replace BAB := Lib.hid (BAB.out.below hb)
      replace BBC := Lib.hid (BBC.out.below hb)
      replace BAE := Lib.hid (BAE.out.below hb)
      replace BEA := Lib.hid (BEA.out.below hb)
      replace BX := Lib.hid (BX.out.below hb)
      replace BY := Lib.hid (BY.out.below hb)
      replace JA := Lib.hid (JA.out.below hb)
      replace JB := Lib.hid (JB.out.below hb)
      replace TB := Lib.hid (bstep TB.out hb)
      clear hb
      replace hif := Eq.mp (if_neg HAB.out) hif
      obtain ⟨x23, rfl, hx⟩ := hif
      have X := Lib.hid hx
      clear hx
      have k00 := JA.out.c0
      have k01 := JA.out.c1
      have k02 := JA.out.lt
      have k10 := JB.out.c0
      have k11 := JB.out.c1
      have k12 := JB.out.lt
      go_wp2_with fail
      clear k00 k01 k02 k10 k11 k12
      have hb := (Below.refl w23.heap.size w23).alloc (Nat.le_refl _) (.cells #[(.pointer (some ⟨x23, 0, none⟩)), (.pointer none)] 32)
      have JAB := Lib.hid (BXB.new X.out)
      replace Ia := Lib.hid (Ia.out.below hb)
      replace Ib := Lib.hid (Ib.out.below hb)
      replace Ic := Lib.hid (Ic.out.below hb)
      replace FC := Lib.hid (FC.out.below hb)
      replace BA := Lib.hid (BA.out.below hb)
      replace BB := Lib.hid (BB.out.below hb)
      replace BC := Lib.hid (BC.out.below hb)
      replace BI := Lib.hid (BI.out.below hb)
      replace BAB := Lib.hid (BAB.out.below hb)
      replace BBC := Lib.hid (BBC.out.below hb)
      replace BAE := Lib.hid (BAE.out.below hb)
      replace BEA := Lib.hid (BEA.out.below hb)
      replace BX := Lib.hid (BX.out.below hb)
      replace BY := Lib.hid (BY.out.below hb)
      replace JA := Lib.hid (JA.out.below hb)
      replace JB := Lib.hid (JB.out.below hb)
      replace TB := Lib.hid (bstep TB.out hb)
      clear hb X
      generalize w23.alloc (.cells #[(.pointer (some ⟨x23, 0, none⟩)), (.pointer none)] 32) = v23 at *
      generalize w23.heap.size = s23 at *
      have WI := Lib.hid (lawInv (n := n) LAW.out LA.out LB.out HA.out HB.out)
      have NLA := Lib.hid (fun i j => Nat.lt_of_lt_of_le (rgN_lt (n := n) LAW.out LA.out i j) QLE.out)
      have NLB := Lib.hid (fun i j => Nat.lt_of_lt_of_le (rgN_lt (n := n) LAW.out LB.out i j) QLE.out)
      refine (mmulB _ _ n n n _ _ v23 FC.out JB.out.m JA.out.m NLB.out NLA.out (by omega) (by omega) (by omega) (by omega) (by omega)).mono ?_
      rintro e w24 ⟨x24, rfl, hx, hb⟩
      replace Ia := Lib.hid (Ia.out.below hb)
      replace Ib := Lib.hid (Ib.out.below hb)
      replace Ic := Lib.hid (Ic.out.below hb)
      replace FC := Lib.hid (FC.out.below hb)
      replace BA := Lib.hid (BA.out.below hb)
      replace BB := Lib.hid (BB.out.below hb)
      replace BC := Lib.hid (BC.out.below hb)
      replace BI := Lib.hid (BI.out.below hb)
      replace BAB := Lib.hid (BAB.out.below hb)
      replace BBC := Lib.hid (BBC.out.below hb)
      replace BAE := Lib.hid (BAE.out.below hb)
      replace BEA := Lib.hid (BEA.out.below hb)
      replace BX := Lib.hid (BX.out.below hb)
      replace BY := Lib.hid (BY.out.below hb)
      replace JA := Lib.hid (JA.out.below hb)
      replace JB := Lib.hid (JB.out.below hb)
      replace JAB := Lib.hid (JAB.out.below hb)
      replace TB := Lib.hid (bstep TB.out hb)
      have X := Lib.hid hx
      clear hx hb
      go_wp2_with fail
      have hb := (Below.refl w24.heap.size w24).alloc (Nat.le_refl _) (.cells #[(.pointer (some ⟨x24, 0, none⟩)), (.pointer none)] 32)
      have BZ := Lib.hid (BXB.new X.out)
      replace Ia := Lib.hid (Ia.out.below hb)
      replace Ib := Lib.hid (Ib.out.below hb)
      replace Ic := Lib.hid (Ic.out.below hb)
      replace FC := Lib.hid (FC.out.below hb)
      replace BA := Lib.hid (BA.out.below hb)
      replace BB := Lib.hid (BB.out.below hb)
      replace BC := Lib.hid (BC.out.below hb)
      replace BI := Lib.hid (BI.out.below hb)
      replace BAB := Lib.hid (BAB.out.below hb)
      replace BBC := Lib.hid (BBC.out.below hb)
      replace BAE := Lib.hid (BAE.out.below hb)
      replace BEA := Lib.hid (BEA.out.below hb)
      replace BX := Lib.hid (BX.out.below hb)
      replace BY := Lib.hid (BY.out.below hb)
      replace JA := Lib.hid (JA.out.below hb)
      replace JB := Lib.hid (JB.out.below hb)
      replace JAB := Lib.hid (JAB.out.below hb)
      replace TB := Lib.hid (bstep TB.out hb)
      clear hb X
      generalize w24.alloc (.cells #[(.pointer (some ⟨x24, 0, none⟩)), (.pointer none)] 32) = v24 at *
      generalize w24.heap.size = s24 at *
      refine (thereB _ v24).mono ?_
      rintro e w25 ⟨rfl, hb⟩
      replace Ia := Lib.hid (Ia.out.below hb)
      replace Ib := Lib.hid (Ib.out.below hb)
      replace Ic := Lib.hid (Ic.out.below hb)
      replace FC := Lib.hid (FC.out.below hb)
      replace BA := Lib.hid (BA.out.below hb)
      replace BB := Lib.hid (BB.out.below hb)
      replace BC := Lib.hid (BC.out.below hb)
      replace BI := Lib.hid (BI.out.below hb)
      replace BAB := Lib.hid (BAB.out.below hb)
      replace BBC := Lib.hid (BBC.out.below hb)
      replace BAE := Lib.hid (BAE.out.below hb)
      replace BEA := Lib.hid (BEA.out.below hb)
      replace BX := Lib.hid (BX.out.below hb)
      replace BY := Lib.hid (BY.out.below hb)
      replace JA := Lib.hid (JA.out.below hb)
      replace JB := Lib.hid (JB.out.below hb)
      replace JAB := Lib.hid (JAB.out.below hb)
      replace BZ := Lib.hid (BZ.out.below hb)
      replace TB := Lib.hid (bstep TB.out hb)
      clear hb
      have k00 := BZ.out.c0
      have k01 := BZ.out.c1
      have k02 := BZ.out.lt
      have k10 := JAB.out.c0
      have k11 := JAB.out.c1
      have k12 := JAB.out.lt
      go_wp2_with fail
      clear k00 k01 k02 k10 k11 k12
      refine (msameB 81 (.agg #[]) _ _ n n n (mulN gfOps n (rgN gfOps n MB) (rgN gfOps n MA)) (rgN gfOps n (mulN gfOps n MA MB)) w25 (by omega) (by omega) (by omega) BZ.out.m JAB.out.m).mono ?_
      rintro e w26 ⟨rfl, hb⟩
      replace TB := Lib.hid (bstep TB.out hb)
      rw [WI.out]
      clear hb
      go_wp2
      go_ret
      exact ⟨rfl, TB.out⟩
end Go.Proofs.Ytkibophcodhcbaa
