/- A region that draws its order: its operations are met in the text's order, one by one, each in whatever world meets W; the last one may then do anything. No program. -/
import Derived.Orders
import Derived.Tactics
import Derived.KernelRfl
namespace Go.Proofs.Ytkibophcodhcbaa
open Go

section
variable {P : Program} {ops : Array Oper} {Q : Exit → Act → World → Prop} {W : World → Prop}

/-- operation j waits for operation i -/
def rgWaits (ops : Array Oper) (j i : Nat) : Bool :=
  match ops[j]? with
  | some oj => oj.after.any fun e => Region.binds .any e && e.on == i
  | none => false
theorem rgWaits_spec {j i : Nat} (h : rgWaits ops j i = true) : ∃ oj, ops[j]? = some oj ∧ ∃ e ∈ oj.after, Region.binds .any e = true ∧ e.on = i := by
  unfold rgWaits at h
  split at h
  · rename_i oj hj
    obtain ⟨e, he, hb⟩ := Array.any_eq_true'.1 h
    simp only [Bool.and_eq_true, beq_iff_eq] at hb
    exact ⟨oj, hj, e, he, hb.1, hb.2⟩
  · cases h
/-- i and j, i ahead of j in the text: they touch no temporary of one another's, or j waits for i -/
def rgPair (ops : Array Oper) (i j : Nat) : Bool :=
  match ops[i]?, ops[j]? with
  | some x, some y => x.apart ops y || rgWaits ops j i
  | _, _ => false
def rgPairs (ops : Array Oper) : Bool := (List.range ops.size).all fun j => (List.range j).all fun i => rgPair ops i j
def rgText (ops : Array Oper) : Bool := ops.toList.zipIdx.all fun (o, j) => o.after.all fun e => !Region.binds .any e || decide (e.on < j)
/-- all wait, by steps, for the last one's turn -/
def rgSink (ops : Array Oper) (n : Nat) : Bool := (List.range n).all fun i => (List.range (n + 1)).any fun j => decide (i < j) && rgWaits ops j i
def rgOk (ops : Array Oper) (n : Nat) : Bool := rgPairs ops && rgText ops && Region.noSelect ops && (decide (n = ops.size) || (decide (n + 1 = ops.size) && rgSink ops n))

def lay (ops : Array Oper) (vs : Nat → Value) (a0 : Act) (p : Nat → Bool) : Nat → Act
  | 0 => a0
  | k + 1 => if p k then (lay ops vs a0 p k).put ((ops[k]?).bind (·.dst)) (vs k) else lay ops vs a0 p k

theorem put_size (a : Act) (d : Option Tmp) (v : Value) : (a.put d v).tmps.size = a.tmps.size := by cases d <;> simp [Act.put]
theorem put_defers (a : Act) (d : Option Tmp) (v : Value) : (a.put d v).defers = a.defers := by cases d <;> rfl
theorem put_at (a : Act) (d : Option Tmp) (v : Value) (t : Nat) : (a.put d v).tmps[t]? = if d = some t ∧ t < a.tmps.size then some v else a.tmps[t]? := by
  cases d with
  | none => simp [Act.put]
  | some d =>
    by_cases e : d = t
    · subst e
      by_cases hlt : d < a.tmps.size
      · simp [Act.put, hlt]
      · simp [Act.put, hlt]
    · have : ¬ (some d = some t ∧ t < a.tmps.size) := fun h => e (by simpa using h.1)
      rw [if_neg this]
      simp [Act.put, Array.getElem?_setIfInBounds_ne e]
theorem lay_size {vs : Nat → Value} {a0 : Act} {p : Nat → Bool} : ∀ k, (lay ops vs a0 p k).tmps.size = a0.tmps.size
  | 0 => rfl
  | k + 1 => by
    unfold lay; split
    · rw [put_size, lay_size k]
    · exact lay_size k
theorem lay_defers {vs : Nat → Value} {a0 : Act} {p : Nat → Bool} : ∀ k, (lay ops vs a0 p k).defers = a0.defers
  | 0 => rfl
  | k + 1 => by
    unfold lay; split
    · rw [put_defers, lay_defers k]
    · exact lay_defers k
theorem lay_congr {vs vs' : Nat → Value} {a0 : Act} {p : Nat → Bool} : ∀ k, (∀ j, j < k → vs j = vs' j) → lay ops vs a0 p k = lay ops vs' a0 p k
  | 0, _ => rfl
  | k + 1, h => by
    unfold lay; rw [lay_congr k (fun j hj => h j (by omega)), h k (by omega)]
/-- what stands in temporary t hangs on who of its writers has come up -/
theorem lay_slot {vs : Nat → Value} {a0 : Act} {p q : Nat → Bool} {t : Nat} : ∀ k, (∀ j, j < k → ((ops[j]?).bind (·.dst)) = some t → p j = q j) → (lay ops vs a0 p k).tmps[t]? = (lay ops vs a0 q k).tmps[t]?
  | 0, _ => rfl
  | k + 1, h => by
    have ih := lay_slot (vs := vs) (a0 := a0) (p := p) (q := q) (t := t) k (fun j hj hd => h j (by omega) hd)
    unfold lay
    by_cases hd : ((ops[k]?).bind (·.dst)) = some t
    · rw [h k (by omega) hd]
      split
      · rw [put_at, put_at, lay_size, lay_size, ih]
      · exact ih
    · have e : ∀ r : Nat → Bool, (if r k then (lay ops vs a0 r k).put ((ops[k]?).bind (·.dst)) (vs k) else lay ops vs a0 r k).tmps[t]? = (lay ops vs a0 r k).tmps[t]? := fun r => by
        split
        · rw [put_at, if_neg (fun h => hd h.1)]
        · rfl
      rw [e p, e q, ih]
theorem lay_upto {vs : Nat → Value} {a0 : Act} {p : Nat → Bool} {i : Nat} (hp : ∀ j, i ≤ j → p j = false) : ∀ k, i ≤ k → lay ops vs a0 p k = lay ops vs a0 p i
  | 0, h => by have : i = 0 := by omega
               subst this; rfl
  | k + 1, h => by
    by_cases e : i = k + 1
    · subst e; rfl
    · have : lay ops vs a0 p (k + 1) = lay ops vs a0 p k := by
        conv => lhs; unfold lay
        rw [hp k (by omega)]; rfl
      rw [this, lay_upto hp k (by omega)]
theorem act_ext {a b : Act} (hs : a.tmps.size = b.tmps.size) (hd : a.defers = b.defers) (h : ∀ t : Nat, a.tmps[t]? = b.tmps[t]?) : a = b := by
  obtain ⟨ta, da⟩ := a
  obtain ⟨tb, db⟩ := b
  simp only at hs hd h
  subst hd
  congr 1
  exact Array.ext_getElem? h

/-- what an operation gives in state a: its value v, in whatever world that meets W, which holds behind it too -/
def Give (P : Program) (ops : Array Oper) (W : World → Prop) (a : Act) (o : Oper) (v : Value) : Prop :=
  (Region.wanted o (yielded ops a.tmps) = true ∧ ∀ w, W w → (∃ w', (execOp a.eval o).run P w = .ok (.value v) w' ∧ W w') ∨
    (∃ f args w', (execOp a.eval o).run P w = .ok (.enter f args) w' ∧ Calls P f args w' fun e w'' => e = .returned v ∧ W w'')) ∨
  (Region.wanted o (yielded ops a.tmps) = false ∧ v = undef)
theorem Give.plain {a : Act} {o : Oper} {v : Value} (hw : Region.wanted o (yielded ops a.tmps) = true) (h : ∀ w, W w → (execOp a.eval o).run P w = .ok (.value v) w) : Give P ops W a o v :=
  .inl ⟨hw, fun w hW => .inl ⟨w, h w hW, hW⟩⟩
theorem Give.call {a : Act} {o : Oper} {v : Value} (f : FuncId) (args : Array Value) (hw : Region.wanted o (yielded ops a.tmps) = true) (h : ∀ w, W w → (execOp a.eval o).run P w = .ok (.enter f args) w)
    (hc : ∀ w, W w → Calls P f args w fun e w' => e = .returned v ∧ W w') : Give P ops W a o v :=
  .inl ⟨hw, fun w hW => .inr ⟨f, args, w, h w hW, hc w hW⟩⟩
theorem Give.shut {a : Act} {o : Oper} (hw : Region.wanted o (yielded ops a.tmps) = false) : Give P ops W a o undef := .inr ⟨hw, rfl⟩

/-- r operations from number i on, in the text's order -/
def RG (P : Program) (ops : Array Oper) (W : World → Prop) (K : Act → Prop) : Nat → Nat → Act → Prop
  | 0, _, a => K a
  | r + 1, i, a => ∃ o v, ops[i]? = some o ∧ Give P ops W a o v ∧ RG P ops W K r (i + 1) (a.put o.dst v)
theorem RG.step {K : Act → Prop} {r i : Nat} {a : Act} (o : Oper) {v : Value} (ho : ops[i]? = some o) (hg : Give P ops W a o v) (h : RG P ops W K r (i + 1) (a.put o.dst v)) : RG P ops W K (r + 1) i a := ⟨o, v, ho, hg, h⟩

theorem RG.plain {K : Act → Prop} {r i : Nat} {a : Act} {v : Value} {dst : Option Tmp} {op : Op} {ty : TypeId} {ps : String} {af : Array Edge} {gd : Option (Nat × Bool)} (ho : ops[i]? = some ⟨dst, op, ty, ps, af, gd⟩) (hw : Region.wanted ⟨dst, op, ty, ps, af, gd⟩ (yielded ops a.tmps) = true)
    (h : ∀ w, W w → (execOp a.eval ⟨dst, op, ty, ps, af, gd⟩).run P w = .ok (.value v) w) (hn : RG P ops W K r (i + 1) (a.put dst v)) : RG P ops W K (r + 1) i a := ⟨_, v, ho, .plain hw h, hn⟩
theorem RG.call {K : Act → Prop} {r i : Nat} {a : Act} {v : Value} {f : FuncId} {args : Array Value} {dst : Option Tmp} {op : Op} {ty : TypeId} {ps : String} {af : Array Edge} {gd : Option (Nat × Bool)} (ho : ops[i]? = some ⟨dst, op, ty, ps, af, gd⟩)
    (hw : Region.wanted ⟨dst, op, ty, ps, af, gd⟩ (yielded ops a.tmps) = true) (h : ∀ w, W w → (execOp a.eval ⟨dst, op, ty, ps, af, gd⟩).run P w = .ok (.enter f args) w)
    (hc : ∀ w, W w → Calls P f args w fun e w' => e = .returned v ∧ W w') (hn : RG P ops W K r (i + 1) (a.put dst v)) : RG P ops W K (r + 1) i a := ⟨_, v, ho, .call f args hw h hc, hn⟩
theorem rg_values {K : Act → Prop} {a0 : Act} : ∀ (r i : Nat) (vs : Nat → Value), RG P ops W K r i (lay ops vs a0 (fun _ => true) i) →
    ∃ vs' : Nat → Value, (∀ j, j < i → vs' j = vs j) ∧ (∀ j, i ≤ j → j < i + r → ∃ o, ops[j]? = some o ∧ Give P ops W (lay ops vs' a0 (fun _ => true) j) o (vs' j)) ∧ K (lay ops vs' a0 (fun _ => true) (i + r))
  | 0, i, vs, h => ⟨vs, fun _ _ => rfl, fun j h1 h2 => absurd h2 (by omega), h⟩
  | r + 1, i, vs, ⟨o, v, ho, hg, h⟩ => by
    have hv : lay ops (fun j => if j = i then v else vs j) a0 (fun _ => true) i = lay ops vs a0 (fun _ => true) i := lay_congr i (fun j hj => if_neg (by omega))
    have hn : lay ops (fun j => if j = i then v else vs j) a0 (fun _ => true) (i + 1) = (lay ops vs a0 (fun _ => true) i).put o.dst v := by
      conv => lhs; unfold lay
      rw [if_pos rfl, hv, if_pos rfl, ho]; rfl
    obtain ⟨vs', h1, h2, h3⟩ := rg_values r (i + 1) (fun j => if j = i then v else vs j) (by rw [hn]; exact h)
    refine ⟨vs', fun j hj => (h1 j (by omega)).trans (if_neg (by omega)), fun j hj hj2 => ?_, by rw [show i + (r + 1) = i + 1 + r by omega]; exact h3⟩
    by_cases e : j = i
    · subst e
      have e1 : vs' j = v := (h1 j (by omega)).trans (if_pos rfl)
      refine ⟨o, ho, ?_⟩
      rw [e1, lay_congr j (fun l hl => (h1 l (by omega)).trans (if_neg (by omega)))]
      exact hg
    · exact h2 j (by omega) (by omega)

/-- how many of the first k have not come up -/
def unl (listed : Array Bool) : Nat → Nat
  | 0 => 0
  | k + 1 => unl listed k + if listed.getD k false then 0 else 1
theorem unl_set {listed : Array Bool} {i : Nat} (hi : i < listed.size) (h : listed.getD i false = false) : ∀ k, unl (listed.setIfInBounds i true) k + (if i < k then 1 else 0) = unl listed k
  | 0 => by simp [unl]
  | k + 1 => by
    have ih := unl_set hi h k
    unfold unl
    by_cases e : i = k
    · subst e
      rw [if_neg (by omega)] at ih
      rw [h]
      have : (listed.setIfInBounds i true).getD i false = true := by simp [hi]
      rw [this]
      simp
      omega
    · rw [getD_set_ne false e]
      by_cases e2 : i < k
      · have e3 : i < k + 1 := by omega
        simp only [e2, e3, if_true] at ih ⊢
        omega
      · have e3 : ¬ i < k + 1 := by omega
        simp only [e2, e3, if_false] at ih ⊢
        omega
theorem unl_zero {listed : Array Bool} : ∀ k, unl listed k = 0 → ∀ j, j < k → listed.getD j false = true
  | 0, _, j, hj => absurd hj (by omega)
  | k + 1, h, j, hj => by
    unfold unl at h
    by_cases e : j = k
    · subst e
      cases hl : listed.getD j false with
      | true => rfl
      | false => rw [hl] at h; simp at h
    · exact unl_zero k (by omega) j (by omega)
theorem unl_all {n : Nat} : ∀ k, k ≤ n → unl (Array.replicate n false) k = k
  | 0, _ => rfl
  | k + 1, h => by
    unfold unl
    rw [unl_all k (by omega)]
    have : (Array.replicate n false).getD k false = false := by
      rcases Nat.lt_or_ge k n with h | h
      · simp [h]
      · simp [h]
    rw [this]; rfl

structure RgInv (ops : Array Oper) (listed : Array Bool) : Prop where
  size : listed.size = ops.size
  closed : ∀ j oj, ops[j]? = some oj → listed.getD j false = true → ∀ e ∈ oj.after, Region.binds .any e = true → listed.getD e.on false = true

theorem getD_tf {listed : Array Bool} {i : Nat} (hi : i < listed.size) : listed.getD i true = listed.getD i false := by simp [hi]
theorem RgInv.set {listed : Array Bool} {i : Nat} (inv : RgInv ops listed) (hi : i ∈ Region.ready .any ops listed) : RgInv ops (listed.setIfInBounds i true) := by
  obtain ⟨_, oi, hoi, hall⟩ := mem_ready.1 hi
  refine ⟨by simp [inv.size], fun j oj hj hl e he hb => ?_⟩
  by_cases hij : i = j
  · subst hij
    have : oj = oi := Option.some.inj (hj.symm.trans hoi)
    subst this
    exact getD_set_true (hall e he hb)
  · rw [getD_set_ne false hij] at hl
    exact getD_set_true (inv.closed j oj hj hl e he hb)

theorem rgPairs_spec (h : rgPairs ops = true) {i j : Nat} (hij : i < j) (hj : j < ops.size) : rgPair ops i j = true :=
  List.all_eq_true.1 (List.all_eq_true.1 h j (List.mem_range.2 hj)) i (List.mem_range.2 hij)
theorem apart_symm_facts {x y : Oper} (h : x.apart ops y = true) : (∀ d, x.dst = some d → d ∉ y.looksAt ops ∧ y.dst ≠ some d) ∧ (∀ d, y.dst = some d → d ∉ x.looksAt ops) := by
  obtain ⟨h1, h2, h3⟩ := Oper.apart_spec h
  exact ⟨fun d hd => ⟨h1 d hd, h2 d hd⟩, h3⟩

/-- who of the writers of a temporary that operation i names has come up when i is ready: just those ahead of it in the text -/
theorem writers {listed : Array Bool} {i j t : Nat} {oi oj : Oper} (inv : RgInv ops listed) (hp : rgPairs ops = true) (hi : i ∈ Region.ready .any ops listed) (hoi : ops[i]? = some oi) (hoj : ops[j]? = some oj) (hne : j ≠ i)
    (hd : oj.dst = some t) (ht : t ∈ oi.looksAt ops ∨ oi.dst = some t) : listed.getD j false = decide (j < i) := by
  have hil : i < ops.size := (Array.getElem?_eq_some_iff.1 hoi).1
  have hjl : j < ops.size := (Array.getElem?_eq_some_iff.1 hoj).1
  obtain ⟨hun, o', ho', hall⟩ := mem_ready.1 hi
  obtain rfl : o' = oi := Option.some.inj (ho'.symm.trans hoi)
  rw [getD_tf (by rw [inv.size]; exact hil)] at hun
  rcases Nat.lt_or_ge j i with hlt | hge
  · rw [decide_eq_true hlt]
    have := rgPairs_spec hp hlt hil
    unfold rgPair at this
    rw [hoj, hoi] at this
    simp only [Bool.or_eq_true] at this
    rcases this with hap | hw
    · obtain ⟨h1, _⟩ := apart_symm_facts hap
      rcases ht with ht | ht
      · exact absurd ht (h1 t hd).1
      · exact absurd ht (h1 t hd).2
    · obtain ⟨ox, hox, e, he, hb, hon⟩ := rgWaits_spec hw
      obtain rfl : ox = o' := Option.some.inj (hox.symm.trans hoi)
      rw [← hon]; exact hall e he hb
  · have hlt : i < j := by omega
    rw [decide_eq_false (by omega)]
    have := rgPairs_spec hp hlt hjl
    unfold rgPair at this
    rw [hoj, hoi] at this
    simp only [Bool.or_eq_true] at this
    rcases this with hap | hw
    · obtain ⟨h1, h2⟩ := apart_symm_facts hap
      rcases ht with ht | ht
      · exact absurd ht (h2 t hd)
      · exact absurd hd (h1 t ht).2
    · cases hl : listed.getD j false with
      | false => rfl
      | true =>
        obtain ⟨ox, hox, e, he, hb, hon⟩ := rgWaits_spec hw
        have h2 := inv.closed j ox hox hl e he hb
        rw [hon, hun] at h2
        cases h2

theorem eval_same {a b : Act} {o : Oper} (h : ∀ t, t ∈ o.looksAt ops → a.tmps[t]? = b.tmps[t]?) : ∀ x ∈ o.op.operands, a.eval x = b.eval x := by
  intro x hx
  cases x with
  | tmp t =>
    have ht : t ∈ o.looksAt ops := by
      unfold Oper.looksAt
      refine List.mem_append.2 (.inl (List.mem_filterMap.2 ⟨.tmp t, by simpa using hx, rfl⟩))
    have := h t ht
    simp [Act.eval, this]
  | _ => rfl
theorem wanted_same {a b : Act} {o : Oper} (h : ∀ t, t ∈ o.looksAt ops → a.tmps[t]? = b.tmps[t]?) : Region.wanted o (yielded ops a.tmps) = Region.wanted o (yielded ops b.tmps) := by
  unfold Region.wanted
  cases hg : o.guard with
  | none => rfl
  | some gw =>
    obtain ⟨g, want⟩ := gw
    have hy : yielded ops a.tmps g = yielded ops b.tmps g := by
      unfold yielded
      cases ht : (ops[g]?).bind (·.dst) with
      | none => rfl
      | some t =>
        have : t ∈ o.looksAt ops := by
          unfold Oper.looksAt
          refine List.mem_append.2 (.inr ?_)
          rw [hg]
          simp [ht]
        simp only [Option.bind_some, h t this]
    simp only [hy]

/-- **THE RULE.** -/
theorem rg_sound {n : Nat} {vs : Nat → Value} {a0 : Act} (hok : rgOk ops n = true) (hg : ∀ j, j < n → ∃ o, ops[j]? = some o ∧ Give P ops W (lay ops vs a0 (fun _ => true) j) o (vs j))
    (hK : ∀ w, W w → wpList P ops Q (ops.toList.drop n) (lay ops vs a0 (fun _ => true) n) w) :
    ∀ (fuel : Nat) (listed : Array Bool) (w : World), RgInv ops listed → unl listed ops.size = fuel → (∀ j, n ≤ j → j < ops.size → listed.getD j false = false) → W w →
      wpAny P .any ops Q fuel listed (lay ops vs a0 (fun j => listed.getD j false) n) w := by
  simp only [rgOk, Bool.and_eq_true, Bool.or_eq_true, decide_eq_true_eq] at hok
  obtain ⟨⟨⟨hpairs, htext⟩, hnos⟩, hn⟩ := hok
  have hsel := Region.noSelect_spec hnos
  -- an operation with all its forerunners up stands ready somewhere
  have ready_some : ∀ listed : Array Bool, RgInv ops listed → ∀ j, j < ops.size → listed.getD j false = false → Region.ready .any ops listed ≠ [] := by
    intro listed inv j
    induction j using Nat.strongRecOn with
    | _ j ih =>
      intro hj hun
      obtain ⟨oj, hoj⟩ : ∃ o, ops[j]? = some o := ⟨ops[j], by simp [hj]⟩
      by_cases hall : ∀ e ∈ oj.after, Region.binds .any e = true → listed.getD e.on false = true
      · intro hnil
        have : j ∈ Region.ready .any ops listed := mem_ready.2 ⟨by rw [getD_tf (by rw [inv.size]; exact hj)]; exact hun, oj, hoj, hall⟩
        rw [hnil] at this; cases this
      · have : ∃ e ∈ oj.after, Region.binds .any e = true ∧ listed.getD e.on false = false := by
          apply Classical.byContradiction
          intro hno
          apply hall
          intro e he hb
          cases hl : listed.getD e.on false with
          | true => rfl
          | false => exact absurd ⟨e, he, hb, hl⟩ hno
        obtain ⟨e, he, hb, hl⟩ := this
        have h1 := List.all_eq_true.1 htext (oj, j) (by
          rw [List.mem_zipIdx_iff_getElem?]
          simpa using hoj)
        have h2 := Array.all_eq_true_iff_forall_mem.1 h1 e he
        simp only [Bool.or_eq_true, Bool.not_eq_true', decide_eq_true_eq] at h2
        have hlt : e.on < j := h2.resolve_left (by rw [hb]; simp)
        exact ih e.on hlt (by omega) hl
  intro fuel
  induction fuel with
  | zero =>
    intro listed w inv hu htail hW
    have hall := unl_zero ops.size hu
    have hnn : n = ops.size := by
      rcases hn with h | ⟨h, _⟩
      · exact h
      · have := htail n (Nat.le_refl _) (by omega)
        rw [hall n (by omega)] at this; cases this
    have hL : lay ops vs a0 (fun j => listed.getD j false) n = lay ops vs a0 (fun _ => true) n :=
      act_ext (by rw [lay_size, lay_size]) (by rw [lay_defers, lay_defers]) fun t => lay_slot n fun j hj _ => hall j (by omega)
    have hr : Region.ready .any ops listed = [] := by
      cases hr : Region.ready .any ops listed with
      | nil => rfl
      | cons x l =>
        have : x ∈ Region.ready .any ops listed := by rw [hr]; simp
        obtain ⟨h1, o, ho, _⟩ := mem_ready.1 this
        have hx := (Array.getElem?_eq_some_iff.1 ho).1
        rw [getD_tf (by rw [inv.size]; exact hx), hall x hx] at h1; cases h1
    have h := hK w hW
    rw [hnn, List.drop_of_length_le (by simp)] at h
    rw [hnn] at hL
    refine ⟨hr, ?_⟩
    rw [hnn, hL]; exact h
  | succ fuel ih =>
    intro listed w inv hu htail hW
    refine ⟨fun hnil => ?_, fun i hi => ?_⟩
    · exfalso
      have : ∃ j, j < ops.size ∧ listed.getD j false = false := by
        apply Classical.byContradiction
        intro hno
        have hall : ∀ k, k ≤ ops.size → unl listed k = 0 := by
          intro k
          induction k with
          | zero => intro _; rfl
          | succ k ihk =>
            intro hk
            unfold unl
            rw [ihk (by omega)]
            cases hl : listed.getD k false with
            | true => rfl
            | false => exact absurd ⟨k, by omega, hl⟩ hno
        rw [hall _ (Nat.le_refl _)] at hu; omega
      obtain ⟨j, hj, hl⟩ := this
      exact ready_some listed inv j hj hl hnil
    · have hi' := hi
      obtain ⟨hun, oi, hoi, hall⟩ := mem_ready.1 hi'
      have hil : i < ops.size := (Array.getElem?_eq_some_iff.1 hoi).1
      have hil2 : i < listed.size := by rw [inv.size]; exact hil
      rw [getD_tf hil2] at hun
      have hu' : unl (listed.setIfInBounds i true) ops.size = fuel := by
        have := unl_set hil2 hun ops.size
        rw [if_pos hil] at this; omega
      rcases Nat.lt_or_ge i n with hin | hin
      · -- an operation of the head
        obtain ⟨o', ho', hgive⟩ := hg i hin
        obtain rfl : o' = oi := Option.some.inj (ho'.symm.trans hoi)
        have hsame : ∀ t, t ∈ o'.looksAt ops → (lay ops vs a0 (fun j => listed.getD j false) n).tmps[t]? = (lay ops vs a0 (fun _ => true) i).tmps[t]? := by
          intro t ht
          have e1 : lay ops vs a0 (fun j => decide (j < i)) n = lay ops vs a0 (fun j => decide (j < i)) i := lay_upto (fun j hj => decide_eq_false (by omega)) n (by omega)
          have e2 : (lay ops vs a0 (fun j => decide (j < i)) i).tmps[t]? = (lay ops vs a0 (fun _ => true) i).tmps[t]? := lay_slot i fun j hj _ => decide_eq_true hj
          rw [← e2, ← e1]
          refine lay_slot n fun j hj hd => ?_
          by_cases e : j = i
          · subst e; rw [hun]; simp
          · cases hoj : ops[j]? with
            | none => rw [hoj] at hd; cases hd
            | some oj =>
              rw [hoj] at hd
              exact writers inv hpairs hi hoi hoj e hd (.inl ht)
        have hput : (lay ops vs a0 (fun j => listed.getD j false) n).put o'.dst (vs i) = lay ops vs a0 (fun j => (listed.setIfInBounds i true).getD j false) n := by
          refine act_ext (by rw [put_size, lay_size, lay_size]) (by rw [put_defers, lay_defers, lay_defers]) fun t => ?_
          rw [put_at, lay_size]
          by_cases hd : o'.dst = some t
          · -- i is the last writer of t
            have e1 : (lay ops vs a0 (fun j => (listed.setIfInBounds i true).getD j false) n).tmps[t]? = (lay ops vs a0 (fun j => decide (j < i + 1)) n).tmps[t]? := by
              refine lay_slot n fun j hj hdj => ?_
              by_cases e : j = i
              · subst e; rw [show (listed.setIfInBounds j true).getD j false = true by simp [hil2], decide_eq_true (by omega)]
              · rw [getD_set_ne false (Ne.symm e)]
                cases hoj : ops[j]? with
                | none => rw [hoj] at hdj; cases hdj
                | some oj =>
                  rw [hoj] at hdj
                  rw [writers inv hpairs hi hoi hoj e hdj (.inr hd)]
                  by_cases h : j < i
                  · rw [decide_eq_true h, decide_eq_true (by omega)]
                  · rw [decide_eq_false h, decide_eq_false (by omega)]
            rw [e1, lay_upto (fun j hj => decide_eq_false (by omega)) n (show i + 1 ≤ n by omega)]
            conv => rhs; unfold lay
            rw [if_pos (decide_eq_true (by omega)), hoi]
            show _ = ((lay ops vs a0 (fun j => decide (j < i + 1)) i).put o'.dst (vs i)).tmps[t]?
            rw [put_at, lay_size, hd]
            by_cases hlt : t < a0.tmps.size
            · rw [if_pos ⟨rfl, hlt⟩, if_pos ⟨rfl, hlt⟩]
            · rw [if_neg (fun h => hlt h.2), if_neg (fun h => hlt h.2), Array.getElem?_eq_none (by rw [lay_size]; omega), Array.getElem?_eq_none (by rw [lay_size]; omega)]
          · rw [if_neg (fun h => hd h.1)]
            refine lay_slot n fun j hj hdj => ?_
            by_cases e : j = i
            · subst e; rw [hoi] at hdj; exact absurd hdj hd
            · rw [getD_set_ne false (Ne.symm e)]
        have next : ∀ w', W w' → wpAny P .any ops Q fuel (listed.setIfInBounds i true) ((lay ops vs a0 (fun j => listed.getD j false) n).put o'.dst (vs i)) w' := fun w' hw' => by
          rw [hput]
          refine ih _ w' (inv.set hi) hu' (fun j h1 h2 => ?_) hw'
          rw [getD_set_ne false (by omega)]; exact htail j h1 h2
        unfold wpOp
        rw [hoi]
        simp only
        rw [wanted_same hsame]
        rcases hgive with ⟨hw, hv⟩ | ⟨hw, hv⟩
        · rw [if_pos hw]
          refine .inl ?_
          unfold Oper.wp
          rw [execOp_congr o' (fun cs b => hsel i o' cs b hoi) (eval_same hsame)]
          rcases hv w hW with ⟨w', hr, hw'⟩ | ⟨f, args, w', hr, hc⟩
          · rw [hr]; exact next w' hw'
          · rw [hr]
            refine Calls.mono hc fun e w'' he => ?_
            obtain ⟨rfl, hw'⟩ := he
            exact next w'' hw'
        · rw [if_neg (by rw [hw]; simp)]
          have := next w hW
          rw [hv] at this
          exact this
      · -- the last one
        have hnn : n + 1 = ops.size ∧ rgSink ops n = true := by
          rcases hn with h | h
          · omega
          · exact h
        have hieq : i = n := by omega
        subst hieq
        -- all others have come up
        have hdone : ∀ d j, i - j = d → j < i → listed.getD j false = true := by
          intro d
          induction d using Nat.strongRecOn with
          | _ d ihd =>
            intro j hd hj
            have h1 := List.all_eq_true.1 hnn.2 j (List.mem_range.2 hj)
            obtain ⟨k, hk, hk2⟩ := List.any_eq_true.1 h1
            simp only [Bool.and_eq_true, decide_eq_true_eq] at hk2
            obtain ⟨ok, hok, e, he, hb, hon⟩ := rgWaits_spec hk2.2
            have hki : k ≤ i := by have := List.mem_range.1 hk; omega
            by_cases hke : k = i
            · subst hke
              have : ok = oi := Option.some.inj (hok.symm.trans hoi)
              subst this
              rw [← hon]; exact hall e he hb
            · have := ihd (i - k) (by omega) k rfl (by omega)
              rw [← hon]; exact inv.closed k ok hok this e he hb
        have hL : lay ops vs a0 (fun j => listed.getD j false) i = lay ops vs a0 (fun _ => true) i :=
          act_ext (by rw [lay_size, lay_size]) (by rw [lay_defers, lay_defers]) fun t => lay_slot i fun j hj _ => hdone (i - j) j rfl hj
        rw [hL]
        have h := hK w hW
        have hdrop : ops.toList.drop i = [oi] := by
          have e1 : ops.toList[i]? = some oi := by simpa using hoi
          have hlen : ops.toList.length = i + 1 := by simp; omega
          have := List.drop_eq_getElem_cons (l := ops.toList) (i := i) (by omega)
          rw [this, List.drop_of_length_le (by omega)]
          rw [List.getElem?_eq_getElem (by omega)] at e1
          injection e1 with e1
          rw [e1]
        rw [hdrop] at h
        -- behind it nothing is left
        have hf : fuel = 0 := by
          have hz : ∀ k, k ≤ ops.size → unl (listed.setIfInBounds i true) k = 0 := by
            intro k
            induction k with
            | zero => intro _; rfl
            | succ k ihk =>
              intro hk
              unfold unl
              rw [ihk (by omega)]
              by_cases e : i = k
              · subst e; simp [hil2]
              · rw [getD_set_ne false e, hdone (i - k) k rfl (by omega)]; rfl
          rw [hz _ (Nat.le_refl _)] at hu'; omega
        subst hf
        have hr0 : Region.ready .any ops (listed.setIfInBounds i true) = [] := by
          cases hr : Region.ready .any ops (listed.setIfInBounds i true) with
          | nil => rfl
          | cons x l =>
            have : x ∈ Region.ready .any ops (listed.setIfInBounds i true) := by rw [hr]; simp
            obtain ⟨h1, o, ho, _⟩ := mem_ready.1 this
            have hx := (Array.getElem?_eq_some_iff.1 ho).1
            rw [getD_tf (by simp [inv.size]; exact hx)] at h1
            by_cases e : i = x
            · subst e; rw [show (listed.setIfInBounds i true).getD i false = true by simp [hil2]] at h1; cases h1
            · rw [getD_set_ne false e, hdone (i - x) x rfl (by omega)] at h1; cases h1
        have hlast : ∀ a w, Q .normal a w → wpAny P .any ops Q 0 (listed.setIfInBounds i true) a w := fun a w hq => ⟨hr0, hq⟩
        unfold wpOp
        rw [hoi]
        simp only
        unfold wpList at h
        split
        · rename_i hw
          rw [if_pos hw] at h
          exact h.imp (Oper.wp_mono fun a w hq => hlast a w hq) id
        · rename_i hw
          rw [if_neg hw] at h
          exact hlast _ _ h

theorem wp_region_rg {id : Nat} {a : Act} {w : World} (n : Nat) (W : World → Prop) (hm : P.follows .mixedOrders = true) (hok : rgOk ops n = true) (hW : W { w with drawn := w.drawn + 1 })
    (h : RG P ops W (fun a' => ∀ w', W w' → wpList P ops Q (ops.toList.drop n) a' w') n 0 a) : (Code.region id ops true).wp P Q a w := by
  refine wp_region_any hm ?_
  obtain ⟨vs, _, h2, h3⟩ := rg_values (vs := fun _ => undef) n 0 h
  have hns : n ≤ ops.size := by
    simp only [rgOk, Bool.and_eq_true, Bool.or_eq_true, decide_eq_true_eq] at hok
    rcases hok.2 with h | h
    · omega
    · omega
  have hrep : ∀ j, (Array.replicate ops.size false).getD j false = false := fun j => by
    rcases Nat.lt_or_ge j ops.size with h | h
    · simp [h]
    · simp [h]
  have := rg_sound (Q := Q) hok (fun j hj => h2 j (Nat.zero_le _) (by omega)) (by rw [Nat.zero_add] at h3; exact h3) ops.size (Array.replicate ops.size false) { w with drawn := w.drawn + 1 }
    ⟨by simp, fun j oj _ hl => by rw [hrep] at hl; cases hl⟩ (unl_all _ (Nat.le_refl _)) (fun j _ _ => hrep j) hW
  have e : lay ops vs a (fun j => (Array.replicate ops.size false).getD j false) n = a := by
    have := lay_upto (ops := ops) (vs := vs) (a0 := a) (p := fun j => (Array.replicate ops.size false).getD j false) (i := 0) (fun j _ => hrep j) n (Nat.zero_le _)
    rw [this]; rfl
  rw [e] at this
  exact this
end
end Go.Proofs.Ytkibophcodhcbaa
