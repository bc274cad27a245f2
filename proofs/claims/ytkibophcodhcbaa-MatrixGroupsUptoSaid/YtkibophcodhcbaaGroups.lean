/- THE ROW OF MatrixGroups: the arguments opened, the three kinds joined, the statement. -/
import Derived.Test.YtkibophcodhcbaaLaw6B
import Derived.Test.YtkibophcodhcbaaLaw6W
import Derived.WalkKit
import Derived.ProofKit
import Derived.OpenShut
import Derived.JoinedCond
namespace Go.Proofs.Ytkibophcodhcbaa
open Go.ChangeShapes Go.WideShapes Go.ChangeAt Go.RowKit

set_option maxRecDepth 100000 in
theorem groupsNo (p : Nat) (hp : p < 4294967296) (hp0 : ¬ p = 0) (hno : ¬ (p ≤ 2147483648 ∧ primeB p = true)) (num : Int) (a b c : Value) (w : World) :
    Calls Try.prog 3 #[.int .u32 (p : Nat), .int .i64 num, a, b, c] w fun e w' => e = .returned (.bool true) ∧ Below w.heap.size w w' := by
  have HN := Lib.hid hno
  clear hno
  go_enter Try.func3, Try.ntmps3
  go_wp2_with fail
  refine (awake w).mono ?_
  rintro e w0 ⟨rfl, hb⟩
  go_wp2_with fail
  refine (field_no p w0 hp hp0 HN.out).mono ?_
  rintro e w1 ⟨rfl, rfl⟩
  go_wp2
  go_ret
  exact ⟨rfl, hb⟩
theorem groupsAll (p : Nat) (hp : p < 4294967296) (num : Int) (a b c : Value) (lena lenb lenc : Nat) (za zb zc : Nat → Nat) (w : World) (h1 : -9223372036854775808 ≤ num) (h2 : num < 9223372036854775808)
    (ia : INB w a lena za) (ib : INB w b lenb zb) (ic : INB w c lenc zc) :
    Calls Try.prog 3 #[.int .u32 (p : Nat), .int .i64 num, a, b, c] w fun e w' => e = .returned (.bool true) ∧ Below w.heap.size w w' := by
  by_cases hp0 : p = 0
  · subst hp0
    exact groupsB 0 num a b c lena lenb lenc za zb zc w h1 h2 ia ib ic
  · by_cases hok : p ≤ 2147483648 ∧ primeB p = true
    · exact groupsW p hok.1 hok.2 num a b c lena lenb lenc za zb zc w h1 h2 ia ib ic
    · exact groupsNo p hp hp0 hok num a b c w
theorem cells_u32 : Try.prog.cellsOf 22 = 1 := by kernel_rfl
set_option maxRecDepth 100000 in
theorem in_of {H : Type} {enc : TypeId × Value → H} {W : World} {v : Value} {d : DataW H} {ps : List MemPlace} {base : Nat} (hval : Value.okWide Try.prog W .any base 23 v) (h : DataW.Trod enc Try.prog W 0 (fun _ => true) true 23 v d ps)
    (hlt : ∀ x ∈ ps, x.block < W.heap.size) : ∃ len z, INB W v len z := by
  obtain ⟨a0, len, cap, rfl⟩ := okWide_slice Try.underlying23 hval
  obtain ⟨fuel, hf⟩ := h
  rcases open_ints Try.underlying23 Try.underlying22 cells_u32 hf with ⟨hcs, hx⟩ | ⟨a, len', cap', zs, hcs, _, hl, hm, hz, hx, hcell, hwz⟩
  · simp [Value.cells] at hcs
    obtain ⟨rfl, rfl, rfl⟩ := hcs
    exact ⟨0, fun _ => 0, by omega, fun _ => by show 0 < 4294967296; omega, Or.inl ⟨rfl, rfl, rfl⟩⟩
  · simp [Value.cells] at hcs
    obtain ⟨rfl, rfl, rfl⟩ := hcs
    simp only [Prod.mk.injEq] at hx
    obtain ⟨rfl, rfl⟩ := hx
    simp only [if_true] at hz
    have hw : ∀ j, j < zs.length → 0 ≤ zs.getD j 0 ∧ zs.getD j 0 ≤ 4294967295 := fun j hj => by
      have e1 : IntKind.u32.min = 0 := rfl
      have e2 : IntKind.u32.max = 4294967295 := rfl
      have := hwz (zs.getD j 0) (by rw [List.getD_eq_getElem?_getD, List.getElem?_eq_getElem hj]; exact List.getElem_mem hj)
      simpa [Lit.wf, e1, e2] using this
    have hml : cap ≤ 9223372036854775807 := by unfold maxLen at hm; omega
    refine ⟨len, fun j => if j < zs.length then (zs.getD j 0).toNat else 0, by omega, fun j => ?_, Or.inr ⟨a, cap, rfl, fun h0 => ?_, fun j hj => ?_⟩⟩
    · dsimp only
      split
      · have := hw j (by assumption)
        omega
      · omega
    · exact hlt (.cell a.block (a.off + 0)) (MemPlace.mem_row.2 ⟨0, by omega, rfl⟩)
    · dsimp only
      rw [if_pos (by omega), hcell j (by omega)]
      have := hw j (by omega)
      congr 2
      omega
theorem laidOutP : laidOutB Try.prog = true := by kernel_rfl
theorem ownP : ownKnob Try.prog.godebug = none := by kernel_rfl
set_option maxRecDepth 100000 in
theorem contract (H : Type) (enc : TypeId × Value → H) (W : World) (base : Nat) (args : Array Value) (ds gs : List (DataW H)) (before : List MemPlace)
    (hval : ∀ (j : Nat) t v, Try.f3.params[j]? = some t → args[j]? = some v → Value.okWide Try.prog W .any base t v)
    (hW : DataW.Whole enc Try.prog Try.f3.params.toList Rows.matrixGroupsSpec.vars false W args.toList ds gs before) :
    Calls Try.prog 3 args W fun e W' => ∃ v, e = .returned v ∧ Rows.matrixGroupsSpec.post enc Try.prog Try.f3 false true false false W args v W' := by
  have hW' := hW
  obtain ⟨p, q, hA0, hV, rfl, hfz, hnd⟩ := hW
  have hA : DataW.TrodAll enc Try.prog W 0 (fun _ => true) true Try.f3.params.toList args.toList ds p := hA0
  rw [Try.params3] at hA hval
  obtain ⟨v0, vs0, d0, ds0, p0, q0, hargs, rfl, rfl, h0, r0⟩ := trodAll_cons hA
  obtain ⟨v1, vs1, d1, ds1, p1, q1, rfl, rfl, rfl, h1, r1⟩ := trodAll_cons r0
  obtain ⟨v2, vs2, d2, ds2, p2, q2, rfl, rfl, rfl, h2, r2⟩ := trodAll_cons r1
  obtain ⟨v3, vs3, d3, ds3, p3, q3, rfl, rfl, rfl, h3, r3⟩ := trodAll_cons r2
  obtain ⟨v4, vs4, d4, ds4, p4, q4, rfl, rfl, rfl, h4, r4⟩ := trodAll_cons r3
  obtain ⟨rfl, rfl, rfl⟩ := trodAll_nil r4
  obtain rfl : args = #[v0, v1, v2, v3, v4] := by cases args; simp_all
  obtain ⟨rfl, rfl⟩ := trodVars_none hV
  obtain ⟨a0, rfl, rfl, rfl, w0⟩ := open_int Try.underlying22 (hval 0 22 v0 rfl rfl) h0
  obtain ⟨a1, rfl, rfl, rfl, w1⟩ := open_int Try.underlying3 (hval 1 3 v1 rfl rfl) h1
  clear hA0
  simp only [List.append_nil, List.nil_append] at hW'
  have hlt : ∀ x ∈ p2 ++ (p3 ++ p4), x.block < W.heap.size := fun x hx => by simpa using hW'.lt x hx
  have l2 : ∀ x ∈ p2, x.block < W.heap.size := fun x hx => hlt x (List.mem_append_left _ hx)
  have l3 : ∀ x ∈ p3, x.block < W.heap.size := fun x hx => hlt x (List.mem_append_right _ (List.mem_append_left _ hx))
  have l4 : ∀ x ∈ p4, x.block < W.heap.size := fun x hx => hlt x (List.mem_append_right _ (List.mem_append_right _ hx))
  obtain ⟨lena, za, ia⟩ := in_of (hval 2 23 v2 rfl rfl) h2 l2
  obtain ⟨lenb, zb, ib⟩ := in_of (hval 3 23 v3 rfl rfl) h3 l3
  obtain ⟨lenc, zc, ic⟩ := in_of (hval 4 23 v4 rfl rfl) h4 l4
  have b0 : 0 ≤ a0 ∧ a0 ≤ 4294967295 := by simpa [Lit.wf, IntKind.min, IntKind.max, IntKind.signed, IntKind.bits] using w0
  have b1 : -9223372036854775808 ≤ a1 ∧ a1 ≤ 9223372036854775807 := by simpa [Lit.wf, IntKind.min, IntKind.max, IntKind.signed, IntKind.bits] using w1
  obtain ⟨pn, rfl⟩ : ∃ pn : Nat, a0 = (pn : Int) := ⟨a0.toNat, by omega⟩
  refine (groupsAll pn (by omega) a1 v2 v3 v4 lena lenb lenc za zb zc W b1.1 (by omega) ia ib ic).mono fun e W' ⟨he, hb⟩ => ?_
  subst he
  have k2 := Below.trod (enc := enc) laidOutP (by kernel_rfl) (of_decide_eq_true (by kernel_rfl)) h2 hb l2
  have k3 := Below.trod (enc := enc) laidOutP (by kernel_rfl) (of_decide_eq_true (by kernel_rfl)) h3 hb l3
  have k4 := Below.trod (enc := enc) laidOutP (by kernel_rfl) (of_decide_eq_true (by kernel_rfl)) h4 hb l4
  refine ⟨_, rfl, _, _, _, [], [] ++ ([] ++ (p2 ++ (p3 ++ (p4 ++ [])))), [], hW', ?_, ?_, rfl, hb.frame _, fun h => by cases h⟩
  · exact trodAll_cons_mk (shut_bool Try.underlying4 _) trodAll_mk0
  · exact trodAll_cons_mk (shut_int Try.underlying22 w0) (trodAll_cons_mk (shut_int Try.underlying3 w1) (trodAll_cons_mk k2 (trodAll_cons_mk k3 (trodAll_cons_mk k4 trodAll_mk0))))

set_option maxRecDepth 100000 in
theorem lifted (os : Os) (started : os.Started) (H : Type) (enc : TypeId × Value → H) (F : Stop.Interp) :
    ReturnsInHanded {} Try.checked os 3 .any ((Rows.OpenSpec.upto Rows.matrixGroupsSpec).pre6 enc Try.prog Try.f3 Rows.matrixGroupsUptoRow.domain false) (((Rows.OpenSpec.upto Rows.matrixGroupsSpec).at F).post enc Try.prog Try.f3 false true false false) := by
  refine returnsInHanded_of_cond (C := Try.checked) (s := Rows.OpenSpec.upto Rows.matrixGroupsSpec) (k := Rows.uptoSmall) rfl ownP started (by kernel_rfl) Try.func3
    (OpenSpec.witness (enc := enc) (C := Try.checked) (s := Rows.OpenSpec.upto Rows.matrixGroupsSpec) (k := Rows.uptoSmall) rfl false ⟨#[], #[.int .u32 0, .int .i64 0, .slice none 0 0, .slice none 0 0, .slice none 0 0], []⟩ 8 (by kernel_rfl) (by kernel_rfl) (by kernel_rfl)
      (x := ([.lit (.int .u32 0), .lit (.int .i64 0), .nil, .nil, .nil], [], [])) (by kernel_rfl) rfl (by kernel_rfl)) ?_
  intro W base args ds gs before hval hW _ hk _
  exact contract H enc W base args ds gs before hval hW

theorem over : Rows.matrixGroupsUptoRow.holds Try.pinned (Rows.OpenSpec.upto Rows.matrixGroupsSpec) :=
  OpenClaim.holds_of_cond 3 Try.f3 rfl rfl rfl rfl rfl rfl rfl ⟨rfl, rfl, rfl, rfl, rfl⟩ rfl rfl rfl rfl rfl (by kernel_rfl) Try.func3 (by kernel_rfl)
    (of_decide_eq_true (by kernel_rfl)) (by unfold Func.isWrapper; first | (rw [if_pos (by decide +kernel)]; kernel_rfl) | (rw [if_neg (by decide +kernel)]; exact ⟨rfl, rfl⟩))
    (fun os started H enc _ F => lifted os started H enc F)

theorem matrixGroupsProved : Rows.MatrixGroupsUptoSaid := over
#print axioms matrixGroupsProved
end Go.Proofs.Ytkibophcodhcbaa
