/-
  A law for regions that draw their order: what holds of each operation's value whatever the order.
-/
import Derived.Test.YtnoojlgefpekiaaRows
import Derived.WalkKit
import Derived.Lib.Hide
namespace Go.Proofs.Ytnoojlgefpekiaa
open Go.RowKit

section
variable {P : Program} {ops : Array Oper} {Q : Exit → Act → World → Prop} {md : Region.Mode}

theorem getD_false {L : Array Bool} {i : Nat} (h : L.getD i true = false) : ∃ hi : i < L.size, L[i] = false := by
  by_cases hi : i < L.size
  · exact ⟨hi, by simpa [hi] using h⟩
  · simp [hi] at h

theorem count_less {L : Array Bool} {i : Nat} (h : L.getD i true = false) : (L.setIfInBounds i true).toList.count false + 1 = L.toList.count false := by
  obtain ⟨hi, e⟩ := getD_false h
  have hl : i < L.toList.length := by simpa using hi
  have hm : 0 < L.toList.count false := List.count_pos_iff.2 (by rw [← e]; simp)
  have he : L.toList[i] = false := by simpa using e
  rw [Array.toList_setIfInBounds, List.count_set hl, he]
  generalize L.toList.count false = c at *
  simp
  omega

/-- by what stays true -/
theorem wpAny_inv (I : Array Bool → Act → World → Prop)
    (hstep : ∀ L a w i, I L a w → i ∈ Region.ready md ops L → wpOp P ops Q i (I (L.setIfInBounds i true)) a w)
    (hend : ∀ L a w, I L a w → Region.ready md ops L = [] → Q .normal a w) :
    ∀ (fuel : Nat) (L : Array Bool) (a : Act) (w : World), I L a w → L.toList.count false ≤ fuel → wpAny P md ops Q fuel L a w
  | 0, L, a, w, h, hc => by
    have hr : Region.ready md ops L = [] := by
      rw [List.eq_nil_iff_forall_not_mem]
      intro i hi
      have h1 := (mem_ready.1 hi).1
      have := count_less h1
      omega
    exact ⟨hr, hend L a w h hr⟩
  | fuel + 1, L, a, w, h, hc => by
    refine ⟨fun hr => hend L a w h hr, fun i hi => ?_⟩
    refine wpOp_mono (fun a' w' h' => wpAny_inv I hstep hend fuel _ a' w' h' ?_) (hstep L a w i h hi)
    have := count_less (mem_ready.1 hi).1
    omega

/-- the slot of operation j -/
def dstOf (ops : Array Oper) (j : Nat) : Option Tmp := (ops[j]?).bind (·.dst)

/-- the value of operation j in frame a -/
def valAt (ops : Array Oper) (a : Act) (j : Nat) : Value := match dstOf ops j with
  | some d => a.eval (.tmp d)
  | none => undef

/-- operation o waits for operation j -/
def waitsFor (o : Oper) (j : Nat) : Bool := o.after.any fun e => Region.binds .any e && e.on == j

/-- operation k waits, in the end, for operation j -/
def reaches (ops : Array Oper) : Nat → Nat → Nat → Bool
  | 0, _, _ => false
  | f + 1, k, j => match ops[k]? with
    | none => false
    | some o => o.after.any fun e => Region.binds .any e && (e.on == j || reaches ops f e.on j)

/-- the check: no select; each slot lies in the frame and is written once; who looks at a slot waits for who writes it; who comes behind the first n1 waits for all ahead of it -/
def regB (ops : Array Oper) (n : Nat) (n1 : Nat) : Bool :=
  Region.noSelect ops && (List.range ops.size).all fun i => match ops[i]? with
    | none => true
    | some o =>
      (match o.dst with
        | some d => decide (d < n)
        | none => true) && (o.after.all fun e => !Region.binds .any e || decide (e.on < i)) &&
      (decide (i < n1) || (o.guard.isNone && (List.range i).all fun j => reaches ops ops.size i j)) &&
      (List.range ops.size).all fun j => match dstOf ops j with
        | none => true
        | some d => (j == i || o.dst != some d) && (!(o.looksAt ops).contains d || waitsFor o j || decide (n1 ≤ i))

theorem regB_spec {n n1 : Nat} (h : regB ops n n1 = true) : Region.noSelect ops = true ∧ ∀ i o, ops[i]? = some o →
    (∀ d, o.dst = some d → d < n) ∧ (∀ e ∈ o.after, Region.binds .any e = true → e.on < i) ∧ (n1 ≤ i → o.guard = none ∧ ∀ j, j < i → reaches ops ops.size i j = true) ∧ ∀ j d, dstOf ops j = some d → (j = i ∨ o.dst ≠ some d) := by
  simp only [regB, Bool.and_eq_true, List.all_eq_true, List.mem_range] at h
  refine ⟨h.1, fun i o ho => ?_⟩
  have hi : i < ops.size := (Array.getElem?_eq_some_iff.1 ho).1
  have h1 := h.2 i hi
  simp only [ho, Bool.and_eq_true, List.all_eq_true, List.mem_range, Bool.or_eq_true, decide_eq_true_eq, Option.isNone_iff_eq_none] at h1
  obtain ⟨⟨⟨ha, he⟩, ht⟩, hc⟩ := h1
  refine ⟨fun d hd => by simpa [hd] using ha, fun e hm hbi => ?_, fun hn => ht.resolve_left (by omega), fun j d hd => ?_⟩
  · have := Array.all_eq_true'.1 he e hm
    simpa [hbi] using this
  · have hj : j < ops.size := by
      unfold dstOf at hd
      cases hp : ops[j]? with
      | none => simp [hp] at hd
      | some p => exact (Array.getElem?_eq_some_iff.1 hp).1
    have h2 := hc j hj
    simp only [hd, Bool.and_eq_true, Bool.or_eq_true, beq_iff_eq, bne_iff_ne] at h2
    exact h2.1

theorem reaches_spec {L : Array Bool} (hcl : ∀ k o, ops[k]? = some o → L.getD k false = true → ∀ e ∈ o.after, Region.binds .any e = true → L.getD e.on false = true) :
    ∀ (f k j : Nat), (∀ o, ops[k]? = some o → ∀ e ∈ o.after, Region.binds .any e = true → L.getD e.on false = true) → reaches ops f k j = true → L.getD j false = true
  | 0, _, _, _, h => by simp [reaches] at h
  | f + 1, k, j, hk, h => by
    unfold reaches at h
    cases ho : ops[k]? with
    | none => rw [ho] at h; cases h
    | some o =>
      rw [ho] at h
      simp only at h
      rw [Array.any_eq_true'] at h
      obtain ⟨e, he, hb⟩ := h
      simp only [Bool.and_eq_true, Bool.or_eq_true, beq_iff_eq] at hb
      obtain ⟨hb1, hb2⟩ := hb
      have hl := hk o ho e he hb1
      rcases hb2 with rfl | hb2
      · exact hl
      · exact reaches_spec hcl f e.on j (fun p hp => hcl _ p hp hl) hb2

/-- all slots written -/
def fillL : List Oper → Nat → Act → (Nat → Value) → Act
  | [], _, a, _ => a
  | o :: r, k, a, v => fillL r (k + 1) (a.put o.dst (v k)) v

theorem put_size (a : Act) (d : Option Tmp) (v : Value) : (a.put d v).tmps.size = a.tmps.size := by cases d <;> simp [Act.put]
theorem put_def (a : Act) (d : Option Tmp) (v : Value) : (a.put d v).defers = a.defers := by cases d <;> rfl
theorem put_self (a : Act) (t : Tmp) (v : Value) (h : t < a.tmps.size) : (a.put (some t) v).eval (.tmp t) = v := by simp [Act.put, Act.eval, h]
theorem put_other (a : Act) (d : Option Tmp) (t : Tmp) (v : Value) (h : d ≠ some t) : (a.put d v).eval (.tmp t) = a.eval (.tmp t) :=
  Act.eval_put fun d' hd hx => h (by rw [hd]; injection hx with hx; rw [hx])

theorem fill_size : ∀ (l : List Oper) (k : Nat) (a : Act) (v : Nat → Value), (fillL l k a v).tmps.size = a.tmps.size ∧ (fillL l k a v).defers = a.defers
  | [], _, _, _ => ⟨rfl, rfl⟩
  | o :: r, k, a, v => by
    obtain ⟨h1, h2⟩ := fill_size r (k + 1) (a.put o.dst (v k)) v
    exact ⟨h1.trans (put_size _ _ _), h2.trans (put_def _ _ _)⟩

theorem fill_out : ∀ (l : List Oper) (k : Nat) (a : Act) (v : Nat → Value) (t : Tmp), (∀ p ∈ l, p.dst ≠ some t) → (fillL l k a v).eval (.tmp t) = a.eval (.tmp t)
  | [], _, _, _, _, _ => rfl
  | o :: r, k, a, v, t, h => (fill_out r (k + 1) _ v t (fun p hp => h p (List.mem_cons_of_mem _ hp))).trans (put_other a o.dst t _ (h o List.mem_cons_self))

theorem fill_in : ∀ (l : List Oper) (k : Nat) (a : Act) (v : Nat → Value) (t : Tmp) (j : Nat) (o : Oper), l[j]? = some o → o.dst = some t → t < a.tmps.size →
    (∀ i p, l[i]? = some p → p.dst = some t → i = j) → (fillL l k a v).eval (.tmp t) = v (k + j)
  | [], _, _, _, _, _, _, h, _, _, _ => by simp at h
  | o :: r, k, a, v, t, 0, p, h, hd, ht, hu => by
    simp at h; subst h
    show (fillL r (k + 1) (a.put o.dst (v k)) v).eval (.tmp t) = _
    rw [fill_out r (k + 1) _ v t, hd, put_self a t _ ht]; rfl
    intro q hq hqd
    obtain ⟨i, hi⟩ := List.getElem?_of_mem hq
    have := hu (i + 1) q (by simpa using hi) hqd
    omega
  | o :: r, k, a, v, t, j + 1, p, h, hd, ht, hu => by
    have := fill_in r (k + 1) (a.put o.dst (v k)) v t j p (by simpa using h) hd (by rw [put_size]; exact ht) (fun i q hq hqd => by
      have := hu (i + 1) q (by simpa using hq) hqd
      omega)
    rw [show k + (j + 1) = k + 1 + j from by omega]
    exact this

theorem act_ext {a b : Act} (hs : a.tmps.size = b.tmps.size) (hd : a.defers = b.defers) (h : ∀ t : Nat, t < a.tmps.size → a.eval (.tmp t) = b.eval (.tmp t)) : a = b := by
  obtain ⟨x, d⟩ := a
  obtain ⟨y, e⟩ := b
  simp only at hs hd
  subst hd
  have : x = y := by
    apply Array.ext hs
    intro i h1 h2
    have := h i h1
    simpa [Act.eval, h1, h2] using this
  rw [this]

theorem setD {L : Array Bool} {i j : Nat} (h : (L.setIfInBounds i true).getD j false = true) : j = i ∨ L.getD j false = true := by
  by_cases hij : j = i
  · exact .inl hij
  · refine .inr ?_
    simp only [Array.getD_eq_getD_getElem?, Array.getElem?_setIfInBounds_ne (Ne.symm hij)] at h ⊢
    exact h

/-- a guard that says yes -/
theorem want_yes {o : Oper} {a : Act} {g : Nat} {b : Bool} (hg : o.guard = some (g, b)) (h : valAt ops a g = .bool b) : Region.wanted o (yielded ops a.tmps) = true := by
  unfold Region.wanted
  rw [hg]
  unfold valAt dstOf at h
  unfold yielded
  cases hd : (ops[g]?).bind (·.dst) with
  | none => rw [hd] at h; cases h
  | some d =>
    rw [hd] at h
    simp only [Act.eval] at h
    have hs : a.tmps[d]? = some (.bool b) := by
      cases ht : a.tmps[d]? with
      | none => simp [ht] at h; cases h
      | some u => simp [ht] at h; rw [h]
    simp [hd, hs]
/-- a guard that says no -/
theorem want_no {o : Oper} {a : Act} {g : Nat} {b c : Bool} (hg : o.guard = some (g, b)) (h : valAt ops a g = .bool c) (hbc : c ≠ b) : Region.wanted o (yielded ops a.tmps) = false := by
  have := want_yes (o := { o with guard := some (g, c) }) rfl h
  unfold Region.wanted at *
  rw [hg]
  simp only [beq_iff_eq] at this ⊢
  simp [this, hbc]
theorem want_none {o : Oper} {a : Act} (hg : o.guard = none) : Region.wanted o (yielded ops a.tmps) = true := by
  unfold Region.wanted; rw [hg]

/-- how an operation runs, the frame behind a letter -/
def Runs (P : Program) (o : Oper) (a : Act) (w : World) (r : Result Next) : Prop :=
  ∀ ρ : Operand → Value, ρ = a.eval → (∀ x, ρ (.const x) = x) → (∀ f, ρ (.func f) = .func (.func f) #[] #[]) → (execOp ρ o).run P w = r
/-- an operation that hands back a value -/
theorem op_value {i : Nat} {o : Oper} {a : Act} {w w' : World} {K : Act → World → Prop} {v : Value} (ho : ops[i]? = some o) (hw : Region.wanted o (yielded ops a.tmps) = true)
    (hr : Runs P o a w (.ok (.value v) w')) (h : K (a.put o.dst v) w') : wpOp P ops Q i K a w := by
  unfold wpOp
  simp only [ho, hw, if_true]
  refine .inl ?_
  unfold Oper.wp
  rw [hr a.eval rfl (fun _ => rfl) (fun _ => rfl)]
  exact h
/-- one that hands back nothing -/
theorem op_skip {i : Nat} {o : Oper} {a : Act} {w w' : World} {K : Act → World → Prop} (ho : ops[i]? = some o) (hw : Region.wanted o (yielded ops a.tmps) = true)
    (hr : Runs P o a w (.ok .skip w')) (h : K (a.put o.dst undef) w') : wpOp P ops Q i K a w := by
  unfold wpOp
  simp only [ho, hw, if_true]
  refine .inl ?_
  unfold Oper.wp
  rw [hr a.eval rfl (fun _ => rfl) (fun _ => rfl)]
  exact h
/-- one that is not wanted -/
theorem op_none {i : Nat} {o : Oper} {a : Act} {w : World} {K : Act → World → Prop} (ho : ops[i]? = some o) (hw : Region.wanted o (yielded ops a.tmps) = false)
    (h : K (a.put o.dst undef) w) : wpOp P ops Q i K a w := by
  unfold wpOp
  simp only [ho, hw]
  exact h
/-- a call -/
theorem op_call {i : Nat} {o : Oper} {a : Act} {w w' : World} {K : Act → World → Prop} {f : FuncId} {args : Array Value} {R : Ending → World → Prop} (ho : ops[i]? = some o)
    (hw : Region.wanted o (yielded ops a.tmps) = true) (hr : Runs P o a w (.ok (.enter f args) w')) (hc : Calls P f args w' R)
    (h : ∀ e w'', R e w'' → ∃ v, e = .returned v ∧ K (a.put o.dst v) w'') : wpOp P ops Q i K a w := by
  unfold wpOp
  simp only [ho, hw, if_true]
  refine .inl ?_
  unfold Oper.wp
  rw [hr a.eval rfl (fun _ => rfl) (fun _ => rfl)]
  exact hc.mono fun e w'' he => by
    obtain ⟨v, rfl, hk⟩ := h e w'' he
    exact hk

/-- the operations one by one -/
def AllFrom (R : Nat → Oper → Prop) : List Oper → Nat → Prop
  | [], _ => True
  | o :: r, n => R n o ∧ AllFrom R r (n + 1)
theorem allFrom {R : Nat → Oper → Prop} : ∀ (l : List Oper) (n : Nat), AllFrom R l n → ∀ k o, l[k]? = some o → R (n + k) o
  | [], _, _, k, o, h => by simp at h
  | p :: r, n, h, 0, o, ho => by simp at ho; subst ho; exact h.1
  | p :: r, n, h, k + 1, o, ho => by
    have := allFrom r (n + 1) h.2 k o (by simpa using ho)
    rwa [show n + 1 + k = n + (k + 1) from by omega] at this

theorem dst_not {l : List Oper} {t : Tmp} (h : (l.all fun o => o.dst != some t) = true) : ∀ j, dstOf l.toArray j ≠ some t := fun j hj => by
  unfold dstOf at hj
  cases ho : l.toArray[j]? with
  | none => simp [ho] at hj
  | some o =>
    have hm : o ∈ l := by
      have : l[j]? = some o := by simpa using ho
      exact List.mem_of_getElem? this
    have := List.all_eq_true.1 h o hm
    simp [ho] at hj
    simp [hj] at this

/-- what stays as memory grows -/
def Stable (F : Value → Value → World → Prop) : Prop := ∀ x y w w', Below w.heap.size w w' → F x y w → F x y w'
theorem st_is (c : Value) : Stable (fun x _ _ => x = c) := fun _ _ _ _ _ h => h
theorem st_true : Stable (fun _ _ _ => True) := fun _ _ _ _ _ _ => trivial
def AllS : List (Value → Value → World → Prop) → Prop
  | [] => True
  | F :: r => Stable F ∧ AllS r
theorem all_st : ∀ (l : List (Value → Value → World → Prop)), AllS l → ∀ j, Stable (l.getD j (fun _ _ _ => True))
  | [], _, j => by simpa using st_true
  | F :: r, h, 0 => h.1
  | F :: r, h, j + 1 => by
    have := all_st r h.2 j
    simpa using this

/-- in the order of the text -/
theorem wpOps_lex (I : Array Bool → Act → World → Prop) (hac : ∀ i o, ops[i]? = some o → ∀ e ∈ o.after, Region.binds .any e = true → e.on < i)
    (hstep : ∀ L a w i, I L a w → i ∈ Region.ready .any ops L → wpOp P ops Q i (I (L.setIfInBounds i true)) a w)
    (hend : ∀ L a w, I L a w → Region.ready .any ops L = [] → Q .normal a w) :
    ∀ (m k : Nat) (L : Array Bool) (a : Act) (w : World), k + m = ops.size → L.size = ops.size → (∀ j, j < ops.size → L.getD j false = decide (j < k)) → I L a w → wpOps P ops Q (List.range' k m) a w
  | 0, k, L, a, w, hk, hs, hL, h => by
    refine hend L a w h ?_
    rw [List.eq_nil_iff_forall_not_mem]
    intro i hi
    have h1 := (mem_ready.1 hi).1
    obtain ⟨h2, h3⟩ := getD_false h1
    have := hL i (by omega)
    simp [h2, h3] at this
    omega
  | m + 1, k, L, a, w, hk, hs, hL, h => by
    rw [List.range'_succ, wpOps_cons]
    have hko : ops[k]? = some ops[k] := Array.getElem?_eq_getElem (by omega)
    have hkL : k < L.size := by omega
    have hr : k ∈ Region.ready .any ops L := mem_ready.2 ⟨by
      have := hL k (by omega)
      simpa [hkL] using this, _, hko, fun e he hb => by
      have hlt := hac k _ hko e he hb
      rw [hL e.on (by omega)]
      simpa using hlt⟩
    refine wpOp_mono (fun a' w' h' => wpOps_lex I hac hstep hend m (k + 1) _ a' w' (by omega) (by simpa using hs) (fun j hj => ?_) h') (hstep L a w k h hr)
    by_cases hjk : j = k
    · subst hjk; simp [hkL]
    · simp only [Array.getD_eq_getD_getElem?, Array.getElem?_setIfInBounds_ne (Ne.symm hjk)]
      have := hL j hj
      simp only [Array.getD_eq_getD_getElem?] at this
      rw [this]
      simp; omega

/-- a region by what stays true -/
theorem region_inv {dr : Bool} {id : Nat} {a0 : Act} {w0 : World} (I : Array Bool → Act → World → Prop) (hm : P.follows .mixedOrders = true)
    (hac : ∀ i o, ops[i]? = some o → ∀ e ∈ o.after, Region.binds .any e = true → e.on < i)
    (hstep : ∀ L a w i, I L a w → i ∈ Region.ready .any ops L → wpOp P ops Q i (I (L.setIfInBounds i true)) a w)
    (hend : ∀ L a w, I L a w → Region.ready .any ops L = [] → Q .normal a w)
    (h0 : ∀ w', (w' = w0 ∨ w' = w0.drew) → I (Array.replicate ops.size false) a0 w') : (Code.region id ops dr).wp P Q a0 w0 := by
  cases dr with
  | true => exact wp_region_any hm (wpAny_inv I hstep hend _ _ _ _ (h0 _ (.inr rfl)) (by simp))
  | false =>
    refine wp_region ?_
    rw [List.range_eq_range']
    exact wpOps_lex I hac hstep hend _ 0 _ _ _ (by omega) (by simp) (fun j hj => by simp [hj]) (h0 _ (.inl rfl))

/-- what comes last, one after another -/
def wpTail (P : Program) (Q : Exit → Act → World → Prop) : List Oper → Act → World → Prop
  | [], a, w => Q .normal a w
  | o :: r, a, w => o.wp P a w (wpTail P Q r) Q

/-- a pointer to the head of a block -/
def ptr (g : Nat) : Value := .pointer (some ⟨g, 0, none⟩)

/-- **what holds of each operation's value whatever the order; what comes last comes last** -/
theorem wp_region_grow {dr : Bool} {id : Nat} {a0 : Act} {w0 : World} (l1 l2 : List Oper) (Vs : List (Value → Value → World → Prop)) (Al : Nat → Bool) (B : Nat) (w : World)
    (hm : P.follows .mixedOrders = true) (hB : regB (l1 ++ l2).toArray a0.tmps.size l1.length = true) (hw : Below B w w0) (hBw : B ≤ w.heap.size)
    (hV : AllS Vs)
    (hAl : ∀ i, Al i = true → ∀ x W, Vs.getD i (fun _ _ _ => True) x x W → ∃ g, x = ptr g ∧ g < W.heap.size)
    (hop : ∀ Q : Exit → Act → World → Prop, AllFrom (fun i o => (l1 ++ l2).toArray[i]? = some o → ∀ a W, Below B w W → (∀ j, j < l1.length → waitsFor o j = true → Vs.getD j (fun _ _ _ => True) (valAt (l1 ++ l2).toArray a j) (valAt (l1 ++ l2).toArray a j) W) →
      (∀ t, (∀ j, dstOf (l1 ++ l2).toArray j ≠ some t) → a.eval (.tmp t) = a0.eval (.tmp t)) →
      wpOp P (l1 ++ l2).toArray Q i (fun a' w' => ∃ x, a' = a.put o.dst x ∧ (o.dst = none → x = undef) ∧ Vs.getD i (fun _ _ _ => True) x x w' ∧ Below W.heap.size W w' ∧ (Al i = true → ∃ g, x = ptr g ∧ W.heap.size ≤ g)) a W) l1 0)
    (hend : ∀ v W, Below B w W → (∀ j, j < l1.length → Vs.getD j (fun _ _ _ => True) (v j) (v j) W) → (∀ i j, i < l1.length → j < l1.length → i ≠ j → Al i = true → Al j = true → v i ≠ v j) →
      wpTail P Q l2 (fillL l1 0 a0 v) W) :
    (Code.region id (l1 ++ l2).toArray dr).wp P Q a0 w0 := by
  obtain ⟨ops, hops⟩ : ∃ ops, ops = (l1 ++ l2).toArray := ⟨_, rfl⟩
  have hget1 : ∀ i o, i < l1.length → (ops[i]? = some o ↔ l1[i]? = some o) := fun i o hi => by rw [hops]; simp [List.getElem?_append_left hi]
  have hget2 : ∀ m, ops[l1.length + m]? = l2[m]? := fun m => by rw [hops]; simp [List.getElem?_append_right]
  have hsz : ops.size = l1.length + l2.length := by rw [hops]; simp
  rw [← hops] at hB hop ⊢
  obtain ⟨_, hB⟩ := regB_spec hB
  have hdst : ∀ {i o}, ops[i]? = some o → dstOf ops i = o.dst := fun {i o} h => by simp [dstOf, h]
  have hop' : ∀ i o, i < l1.length → ops[i]? = some o → _ := fun i o hi ho => by
    have := allFrom l1 0 (hop Q) i o ((hget1 i o hi).1 ho)
    rw [Nat.zero_add] at this
    exact this ho
  refine region_inv (fun L a W => L.size = ops.size ∧ (∀ k o, ops[k]? = some o → L.getD k false = true → ∀ e ∈ o.after, Region.binds .any e = true → L.getD e.on false = true) ∧
    (((∀ k, l1.length ≤ k → L.getD k false = false) ∧ Below B w W ∧ a.defers = a0.defers ∧ a.tmps.size = a0.tmps.size ∧
      (∀ t, (∀ j, L.getD j false = true → dstOf ops j ≠ some t) → a.eval (.tmp t) = a0.eval (.tmp t)) ∧
      (∀ j, L.getD j false = true → Vs.getD j (fun _ _ _ => True) (valAt ops a j) (valAt ops a j) W) ∧
      (∀ i j, L.getD i false = true → L.getD j false = true → i ≠ j → Al i = true → Al j = true → valAt ops a i ≠ valAt ops a j)) ∨
     (∃ m, (∀ k, k < ops.size → (L.getD k false = true ↔ k < l1.length + m)) ∧ wpTail P Q (l2.drop m) a W))) hm (fun i o ho => (hB i o ho).2.1) ?_ ?_ ?_
  · rintro L a W i ⟨c2, ccl, hph⟩ hi
    obtain ⟨hun, o, ho, haf⟩ := mem_ready.1 hi
    obtain ⟨hd1, hd2, hd4, hd3⟩ := hB i o ho
    have hin : i < ops.size := (Array.getElem?_eq_some_iff.1 ho).1
    have hil : i < L.size := by omega
    have hli : L.getD i false = false := by
      obtain ⟨h1, h2⟩ := getD_false hun
      simp [h1, h2]
    have setN : ∀ k, k ≠ i → (L.setIfInBounds i true).getD k false = L.getD k false := fun k hk => by
      simp only [Array.getD_eq_getD_getElem?, Array.getElem?_setIfInBounds_ne (Ne.symm hk)]
    have setI : (L.setIfInBounds i true).getD i false = true := by simp [hil]
    have up : ∀ k, L.getD k false = true → (L.setIfInBounds i true).getD k false = true := fun k hk => by
      by_cases hki : k = i
      · rw [hki]; exact setI
      · rw [setN k hki]; exact hk
    have ccl' : ∀ k o, ops[k]? = some o → (L.setIfInBounds i true).getD k false = true → ∀ e ∈ o.after, Region.binds .any e = true → (L.setIfInBounds i true).getD e.on false = true := fun k p hp hk e he hb => by
      rcases setD hk with rfl | hk
      · rw [ho] at hp; cases hp
        exact up _ (haf e he hb)
      · exact up _ (ccl k p hp hk e he hb)
    have hall : l1.length ≤ i → ∀ j, j < i → L.getD j false = true := fun hn j hj =>
      reaches_spec ccl ops.size i j (fun p hp => by rw [ho] at hp; cases hp; exact haf) ((hd4 hn).2 j hj)
    rcases hph with ⟨c0, c1, c3, c4, c5, c6, c7⟩ | ⟨m, hmL, hT⟩
    · by_cases hin1 : i < l1.length
      · have hwait : ∀ j, waitsFor o j = true → L.getD j false = true := fun j hj => by
          unfold waitsFor at hj
          rw [Array.any_eq_true'] at hj
          obtain ⟨e, he, hb⟩ := hj
          simp only [Bool.and_eq_true, beq_iff_eq] at hb
          obtain ⟨hb, rfl⟩ := hb
          exact haf e he hb
        refine wpOp_mono ?_ (hop' i o hin1 ho a W c1 (fun j _ hj => c6 j (hwait j hj)) (fun t ht => c5 t (fun j _ => ht j)))
        rintro a' w' ⟨x, rfl, hx, hVi, hS, hAli⟩
        have hval : ∀ j, L.getD j false = true → valAt ops (a.put o.dst x) j = valAt ops a j := fun j hj => by
          unfold valAt
          cases hdj : dstOf ops j with
          | none => rfl
          | some d =>
            refine put_other a o.dst d x ?_
            rcases hd3 j d hdj with e | e
            · rw [e, hli] at hj; cases hj
            · exact e
        have hvali : valAt ops (a.put o.dst x) i = x := by
          unfold valAt
          rw [hdst ho]
          cases hod : o.dst with
          | none => exact (hx hod).symm
          | some d => exact put_self a d x (by rw [c4]; exact hd1 d hod)
        have hfar : ∀ j, L.getD j false = true → Al i = true → Al j = true → x ≠ valAt ops a j := fun j hj h1 h2 he => by
          obtain ⟨g, hg, hgl⟩ := hAl j h2 _ _ (c6 j hj)
          obtain ⟨g', hg', hgl'⟩ := hAli h1
          rw [← he, hg'] at hg
          unfold ptr at hg
          injection hg with hg
          injection hg with hg
          injection hg with hg
          omega
        refine ⟨by simpa using c2, ccl', .inl ⟨fun k hk => by rw [setN k (by omega)]; exact c0 k hk, c1.trans (hS.mono (Nat.le_trans hBw c1.size)), (put_def _ _ _).trans c3, (put_size _ _ _).trans c4, fun t ht => ?_, fun j hj => ?_, fun j k hj hk hjk ha1 ha2 => ?_⟩⟩
        · have hit : o.dst ≠ some t := by
            rw [← hdst ho]
            exact ht i setI
          rw [put_other a o.dst t x hit]
          exact c5 t fun j hj => ht j (up j hj)
        · rcases setD hj with rfl | hj
          · rw [hvali]; exact hVi
          · rw [hval j hj]
            exact all_st Vs hV j _ _ W w' hS (c6 j hj)
        · rcases setD hj with rfl | hj2
          · rcases setD hk with rfl | hk2
            · exact absurd rfl hjk
            · rw [hvali, hval k hk2]; exact hfar k hk2 ha1 ha2
          · rcases setD hk with rfl | hk2
            · rw [hvali, hval j hj2]; exact (hfar j hj2 ha2 ha1).symm
            · rw [hval j hj2, hval k hk2]; exact c7 j k hj2 hk2 hjk ha1 ha2
      · have hie : i = l1.length := by
          rcases Nat.lt_or_ge l1.length i with h | h
          · have h1 := hall (by omega) l1.length h
            rw [c0 _ (Nat.le_refl _)] at h1; cases h1
          · omega
        have hlist : ∀ j, j < l1.length → L.getD j false = true := fun j hj => hall (by omega) j (by omega)
        have hfill : a = fillL l1 0 a0 (valAt ops a) := by
          obtain ⟨f1, f2⟩ := fill_size l1 0 a0 (valAt ops a)
          refine act_ext (c4.trans f1.symm) (c3.trans f2.symm) fun t ht => ?_
          have ht0 : t < a0.tmps.size := by rw [← c4]; exact ht
          by_cases hex : ∃ j, j < l1.length ∧ dstOf ops j = some t
          · obtain ⟨j, hjl, hj⟩ := hex
            obtain ⟨p, hp, hpd⟩ : ∃ p, ops[j]? = some p ∧ p.dst = some t := by
              unfold dstOf at hj
              cases h : ops[j]? with
              | none => simp [h] at hj
              | some p => exact ⟨p, rfl, by simpa [h] using hj⟩
            rw [fill_in l1 0 a0 (valAt ops a) t j p ((hget1 j p hjl).1 hp) hpd ht0 (fun k q hk hq => by
              have hk' : ops[k]? = some q := (hget1 k q (List.getElem?_eq_some_iff.1 hk).1).2 hk
              rcases (hB j p hp).2.2.2 k t (by rw [hdst hk', hq]) with e | e
              · exact e
              · exact absurd hpd e)]
            simp [valAt, hj]
          · rw [fill_out l1 0 a0 (valAt ops a) t (fun p hp hpd => by
              obtain ⟨k, hk⟩ := List.getElem?_of_mem hp
              have hkl := (List.getElem?_eq_some_iff.1 hk).1
              exact hex ⟨k, hkl, by rw [hdst ((hget1 k p hkl).2 hk), hpd]⟩)]
            exact c5 t fun j hj hjt => by
              rcases Nat.lt_or_ge j l1.length with h | h
              · exact hex ⟨j, h, hjt⟩
              · rw [c0 j h] at hj; cases hj
        have hT := hend (valAt ops a) W c1 (fun j hj => c6 j (hlist j hj)) (fun j k hj hk => c7 j k (hlist j hj) (hlist k hk))
        rw [← hfill] at hT
        have ho2 : l2[0]? = some o := by rw [← hget2 0, Nat.add_zero, ← hie]; exact ho
        cases l2 with
        | nil => simp at ho2
        | cons p r =>
          simp at ho2; subst ho2
          unfold wpOp
          rw [ho]
          simp only [want_none (hd4 (by omega)).1, if_true]
          refine .inl (Oper.wp_mono (fun a' w' h => ⟨by simpa using c2, ccl', .inr ⟨1, fun k hk => ?_, by simpa using h⟩⟩) hT)
          by_cases hki : k = i
          · rw [hki, setI]; simp; omega
          · rw [setN k hki]
            rcases Nat.lt_or_ge k l1.length with h | h
            · rw [hlist k h]; simp; omega
            · rw [c0 k h]; simp; omega
    · have hie : i = l1.length + m := by
        have h1 : ¬ i < l1.length + m := fun h => by rw [(hmL i hin).2 h] at hli; cases hli
        rcases Nat.lt_or_ge (l1.length + m) i with h | h
        · have h2 := hall (by omega) (l1.length + m) h
          have := (hmL (l1.length + m) (by omega)).1 h2
          omega
        · omega
      have ho2 : l2[m]? = some o := by rw [← hget2 m, ← hie]; exact ho
      have hml : m < l2.length := (List.getElem?_eq_some_iff.1 ho2).1
      rw [List.drop_eq_getElem_cons hml] at hT
      have hoe : l2[m] = o := by
        have := List.getElem?_eq_getElem hml
        rw [this] at ho2; injection ho2
      rw [hoe] at hT
      unfold wpOp
      rw [ho]
      simp only [want_none (hd4 (by omega)).1, if_true]
      refine .inl (Oper.wp_mono (fun a' w' h => ⟨by simpa using c2, ccl', .inr ⟨m + 1, fun k hk => ?_, h⟩⟩) hT)
      by_cases hki : k = i
      · rw [hki, setI]; simp; omega
      · rw [setN k hki, hmL k hk]; omega
  · rintro L a W ⟨c2, ccl, hph⟩ hr
    have hall : ∀ n j, j < n → j < ops.size → L.getD j false = true := by
      intro n
      induction n with
      | zero => intro j hj; omega
      | succ n ih =>
        intro j hj hjs
        cases hl : L.getD j false with
        | true => rfl
        | false =>
          have ho : ops[j]? = some ops[j] := Array.getElem?_eq_getElem hjs
          have hjL : j < L.size := by omega
          have hu : L.getD j true = false := by simpa [hjL] using hl
          have hmem : j ∈ Region.ready .any ops L := mem_ready.2 ⟨hu, ops[j], ho, fun e he hb => by
            have h1 := (hB j _ ho).2.1 e he hb
            exact ih e.on (by omega) (by omega)⟩
          rw [hr] at hmem; cases hmem
    have hdl : ∀ j, j < ops.size → L.getD j false = true := fun j hj => hall (j + 1) j (by omega) hj
    rcases hph with ⟨c0, c1, c3, c4, c5, c6, c7⟩ | ⟨m, hmL, hT⟩
    · have hl2 : l2 = [] := by
        cases l2 with
        | nil => rfl
        | cons p r =>
          have h1 := hdl l1.length (by rw [hsz]; simp)
          rw [c0 _ (Nat.le_refl _)] at h1; cases h1
      have hlist : ∀ j, j < l1.length → L.getD j false = true := fun j hj => hdl j (by rw [hsz]; omega)
      have hfill : a = fillL l1 0 a0 (valAt ops a) := by
        obtain ⟨f1, f2⟩ := fill_size l1 0 a0 (valAt ops a)
        refine act_ext (c4.trans f1.symm) (c3.trans f2.symm) fun t ht => ?_
        have ht0 : t < a0.tmps.size := by rw [← c4]; exact ht
        by_cases hex : ∃ j, j < l1.length ∧ dstOf ops j = some t
        · obtain ⟨j, hjl, hj⟩ := hex
          obtain ⟨p, hp, hpd⟩ : ∃ p, ops[j]? = some p ∧ p.dst = some t := by
            unfold dstOf at hj
            cases h : ops[j]? with
            | none => simp [h] at hj
            | some p => exact ⟨p, rfl, by simpa [h] using hj⟩
          rw [fill_in l1 0 a0 (valAt ops a) t j p ((hget1 j p hjl).1 hp) hpd ht0 (fun k q hk hq => by
            have hk' : ops[k]? = some q := (hget1 k q (List.getElem?_eq_some_iff.1 hk).1).2 hk
            rcases (hB j p hp).2.2.2 k t (by rw [hdst hk', hq]) with e | e
            · exact e
            · exact absurd hpd e)]
          simp [valAt, hj]
        · rw [fill_out l1 0 a0 (valAt ops a) t (fun p hp hpd => by
            obtain ⟨k, hk⟩ := List.getElem?_of_mem hp
            have hkl := (List.getElem?_eq_some_iff.1 hk).1
            exact hex ⟨k, hkl, by rw [hdst ((hget1 k p hkl).2 hk), hpd]⟩)]
          exact c5 t fun j hj hjt => by
            rcases Nat.lt_or_ge j l1.length with h | h
            · exact hex ⟨j, h, hjt⟩
            · rw [c0 j h] at hj; cases hj
      have hT := hend (valAt ops a) W c1 (fun j hj => c6 j (hlist j hj)) (fun j k hj hk => c7 j k (hlist j hj) (hlist k hk))
      rw [← hfill, hl2] at hT
      exact hT
    · have hm2 : l2.length ≤ m := by
        rcases Nat.lt_or_ge m l2.length with h | h
        · have h1 := (hmL (l1.length + m) (by rw [hsz]; omega)).1 (hdl _ (by rw [hsz]; omega))
          omega
        · exact h
      rw [List.drop_eq_nil_of_le hm2] at hT
      exact hT
  · intro w' hw'
    have hwd : Below B w w' := hw'.elim (fun e => by rw [e]; exact hw) (fun e => by rw [e]; exact hw.drew)
    refine ⟨by simp, fun k o _ hk => ?_, .inl ⟨fun k _ => ?_, hwd, rfl, rfl, fun _ _ => rfl, fun j hj => ?_, fun i j hi => ?_⟩⟩
    · exfalso
      by_cases h : k < ops.size <;> simp [h] at hk
    · by_cases h : k < ops.size <;> simp [h]
    · exfalso
      by_cases h : j < ops.size <;> simp [h] at hj
    · exfalso
      by_cases h : i < ops.size <;> simp [h] at hi

/-- the same, the first n1 operations told by their number -/
theorem wp_region_grows {dr : Bool} {id : Nat} {a0 : Act} {w0 : World} {l : List Oper} (n1 : Nat) (Vs : List (Value → Value → World → Prop)) (Al : Nat → Bool) (B : Nat) (w : World)
    (hm : P.follows .mixedOrders = true) (hn : decide (n1 ≤ l.length) = true) (hB : regB l.toArray a0.tmps.size n1 = true) (hw : Below B w w0) (hBw : B ≤ w.heap.size)
    (hV : AllS Vs)
    (hAl : ∀ i, Al i = true → ∀ x W, Vs.getD i (fun _ _ _ => True) x x W → ∃ g, x = ptr g ∧ g < W.heap.size)
    (hop : ∀ Q : Exit → Act → World → Prop, AllFrom (fun i o => l.toArray[i]? = some o → ∀ a W, Below B w W → (∀ j, waitsFor o j = true → Vs.getD j (fun _ _ _ => True) (valAt l.toArray a j) (valAt l.toArray a j) W) →
      (∀ t, (∀ j, dstOf l.toArray j ≠ some t) → a.eval (.tmp t) = a0.eval (.tmp t)) →
      wpOp P l.toArray Q i (fun a' w' => ∃ x, a' = a.put o.dst x ∧ (o.dst = none → x = undef) ∧ Vs.getD i (fun _ _ _ => True) x x w' ∧ Below W.heap.size W w' ∧ (Al i = true → ∃ g, x = ptr g ∧ W.heap.size ≤ g)) a W) (l.take n1) 0)
    (hend : ∀ v W, Below B w W → (∀ j, j < n1 → Vs.getD j (fun _ _ _ => True) (v j) (v j) W) → (∀ i j, i < n1 → j < n1 → i ≠ j → Al i = true → Al j = true → v i ≠ v j) →
      wpTail P Q (l.drop n1) (fillL (l.take n1) 0 a0 v) W) :
    (Code.region id l.toArray dr).wp P Q a0 w0 := by
  have hl : l.take n1 ++ l.drop n1 = l := List.take_append_drop n1 l
  have hlen : (l.take n1).length = n1 := by have := of_decide_eq_true hn; simp; omega
  obtain ⟨l1, h1⟩ : ∃ l1, l1 = l.take n1 := ⟨_, rfl⟩
  obtain ⟨l2, h2⟩ : ∃ l2, l2 = l.drop n1 := ⟨_, rfl⟩
  rw [← h1, ← h2] at hl hend
  rw [← h1] at hlen hop
  clear h1 h2
  subst hl
  subst hlen
  refine wp_region_grow l1 l2 Vs Al B w hm hB hw hBw hV hAl ?_ hend
  have conv : ∀ (m : List Oper) (k : Nat) {R R' : Nat → Oper → Prop}, (∀ i o, i < k + m.length → R i o → R' i o) → AllFrom R m k → AllFrom R' m k := by
    intro m
    induction m with
    | nil => intro _ _ _ _ _; trivial
    | cons o r ih => intro k R R' h hh; exact ⟨h k o (by simp) hh.1, ih (k + 1) (fun i o hi => h i o (by simp; omega)) hh.2⟩
  intro Q
  refine conv l1 0 ?_ (hop Q)
  intro i o hi h ho a W hW hd hx
  have hreg := (regB_spec hB).2 i o ho
  refine h ho a W hW (fun j hj => hd j ?_ hj) hx
  unfold waitsFor at hj
  rw [Array.any_eq_true'] at hj
  obtain ⟨e, he, hb⟩ := hj
  simp only [Bool.and_eq_true, beq_iff_eq] at hb
  have := hreg.2.1 e he hb.1
  rw [hb.2] at this
  omega

end
end Go.Proofs.Ytnoojlgefpekiaa
