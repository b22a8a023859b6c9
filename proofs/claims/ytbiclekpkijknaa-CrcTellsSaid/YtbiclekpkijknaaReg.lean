/-
  A law for regions that draw their order: what holds of each operation's value whatever the order.
-/
import Derived.Test.YtbiclekpkijknaaRows
import Derived.WalkKit
import Derived.Lib.Hide
namespace Go.Proofs.Ytbiclekpkijknaa
open Go.RowKit

section
variable {P : Program} {ops : Array Oper} {Q : Exit → Act → World → Prop} {md : Region.Mode}

theorem getD_false {L : Array Bool} {i : Nat} (h : L.getD i true = false) : ∃ hi : i < L.size, L[i] = false := by
  by_cases hi : i < L.size
  · exact ⟨hi, by simpa [hi] using h⟩
  · simp [hi] at h

theorem count_less {L : Array Bool} {i : Nat} (h : L.getD i true = false) : (L.setIfInBounds i true).toList.count false + 1 = L.toList.count false := by
  obtain ⟨hi, e⟩ := getD_false h
  have hl : i < L.toList.length := by simpa using hi
  have hm : 0 < L.toList.count false := List.count_pos_iff.2 (by rw [← e]; simp)
  have he : L.toList[i] = false := by simpa using e
  rw [Array.toList_setIfInBounds, List.count_set hl, he]
  generalize L.toList.count false = c at *
  simp
  omega

/-- by what stays true -/
theorem wpAny_inv (I : Array Bool → Act → World → Prop)
    (hstep : ∀ L a w i, I L a w → i ∈ Region.ready md ops L → wpOp P ops Q i (I (L.setIfInBounds i true)) a w)
    (hend : ∀ L a w, I L a w → Region.ready md ops L = [] → Q .normal a w) :
    ∀ (fuel : Nat) (L : Array Bool) (a : Act) (w : World), I L a w → L.toList.count false ≤ fuel → wpAny P md ops Q fuel L a w
  | 0, L, a, w, h, hc => by
    have hr : Region.ready md ops L = [] := by
      rw [List.eq_nil_iff_forall_not_mem]
      intro i hi
      have h1 := (mem_ready.1 hi).1
      have := count_less h1
      omega
    exact ⟨hr, hend L a w h hr⟩
  | fuel + 1, L, a, w, h, hc => by
    refine ⟨fun hr => hend L a w h hr, fun i hi => ?_⟩
    refine wpOp_mono (fun a' w' h' => wpAny_inv I hstep hend fuel _ a' w' h' ?_) (hstep L a w i h hi)
    have := count_less (mem_ready.1 hi).1
    omega

/-- the slot of operation j -/
def dstOf (ops : Array Oper) (j : Nat) : Option Tmp := (ops[j]?).bind (·.dst)

/-- the value of operation j in frame a -/
def valAt (ops : Array Oper) (a : Act) (j : Nat) : Value := match dstOf ops j with
  | some d => a.eval (.tmp d)
  | none => undef

/-- operation o waits for operation j -/
def waitsFor (o : Oper) (j : Nat) : Bool := o.after.any fun e => Region.binds .any e && e.on == j

/-- the check: no select; each slot lies in the frame and is written once; who looks at a slot waits for who writes it; D names itself or one waited for -/
def regB (ops : Array Oper) (n : Nat) (D : Nat → Nat) : Bool :=
  Region.noSelect ops && (List.range ops.size).all fun i => match ops[i]? with
    | none => true
    | some o =>
      (match o.dst with
        | some d => decide (d < n)
        | none => true) && (D i == i || waitsFor o (D i)) && (o.after.all fun e => !Region.binds .any e || decide (e.on < i)) &&
      (List.range ops.size).all fun j => match dstOf ops j with
        | none => true
        | some d => (j == i || o.dst != some d) && (!(o.looksAt ops).contains d || waitsFor o j)

theorem regB_spec {n : Nat} {D : Nat → Nat} (h : regB ops n D = true) : Region.noSelect ops = true ∧ ∀ i o, ops[i]? = some o →
    (∀ d, o.dst = some d → d < n) ∧ (D i = i ∨ waitsFor o (D i) = true) ∧ (∀ e ∈ o.after, Region.binds .any e = true → e.on < i) ∧ ∀ j d, dstOf ops j = some d → (j = i ∨ o.dst ≠ some d) ∧ (d ∈ o.looksAt ops → waitsFor o j = true) := by
  simp only [regB, Bool.and_eq_true, List.all_eq_true, List.mem_range] at h
  refine ⟨h.1, fun i o ho => ?_⟩
  have hi : i < ops.size := (Array.getElem?_eq_some_iff.1 ho).1
  have h1 := h.2 i hi
  simp only [ho, Bool.and_eq_true, List.all_eq_true, List.mem_range, Bool.or_eq_true, beq_iff_eq] at h1
  obtain ⟨⟨⟨ha, hb⟩, he⟩, hc⟩ := h1
  refine ⟨fun d hd => by simpa [hd] using ha, hb, fun e hm hbi => ?_, fun j d hd => ?_⟩
  · have := Array.all_eq_true'.1 he e hm
    simpa [hbi] using this
  have hj : j < ops.size := by
    unfold dstOf at hd
    cases hp : ops[j]? with
    | none => simp [hp] at hd
    | some p => exact (Array.getElem?_eq_some_iff.1 hp).1
  have h2 := hc j hj
  simp only [hd, Bool.and_eq_true, Bool.or_eq_true, beq_iff_eq, bne_iff_ne, Bool.not_eq_true', List.contains_eq_mem, decide_eq_false_iff_not] at h2
  exact ⟨h2.1, fun hm => h2.2.resolve_left (fun hn => hn hm)⟩

/-- all slots written -/
def fillL : List Oper → Nat → Act → (Nat → Value) → Act
  | [], _, a, _ => a
  | o :: r, k, a, v => fillL r (k + 1) (a.put o.dst (v k)) v

theorem put_size (a : Act) (d : Option Tmp) (v : Value) : (a.put d v).tmps.size = a.tmps.size := by cases d <;> simp [Act.put]
theorem put_def (a : Act) (d : Option Tmp) (v : Value) : (a.put d v).defers = a.defers := by cases d <;> rfl
theorem put_self (a : Act) (t : Tmp) (v : Value) (h : t < a.tmps.size) : (a.put (some t) v).eval (.tmp t) = v := by simp [Act.put, Act.eval, h]
theorem put_other (a : Act) (d : Option Tmp) (t : Tmp) (v : Value) (h : d ≠ some t) : (a.put d v).eval (.tmp t) = a.eval (.tmp t) :=
  Act.eval_put fun d' hd hx => h (by rw [hd]; injection hx with hx; rw [hx])

theorem fill_size : ∀ (l : List Oper) (k : Nat) (a : Act) (v : Nat → Value), (fillL l k a v).tmps.size = a.tmps.size ∧ (fillL l k a v).defers = a.defers
  | [], _, _, _ => ⟨rfl, rfl⟩
  | o :: r, k, a, v => by
    obtain ⟨h1, h2⟩ := fill_size r (k + 1) (a.put o.dst (v k)) v
    exact ⟨h1.trans (put_size _ _ _), h2.trans (put_def _ _ _)⟩

theorem fill_out : ∀ (l : List Oper) (k : Nat) (a : Act) (v : Nat → Value) (t : Tmp), (∀ p ∈ l, p.dst ≠ some t) → (fillL l k a v).eval (.tmp t) = a.eval (.tmp t)
  | [], _, _, _, _, _ => rfl
  | o :: r, k, a, v, t, h => (fill_out r (k + 1) _ v t (fun p hp => h p (List.mem_cons_of_mem _ hp))).trans (put_other a o.dst t _ (h o List.mem_cons_self))

theorem fill_in : ∀ (l : List Oper) (k : Nat) (a : Act) (v : Nat → Value) (t : Tmp) (j : Nat) (o : Oper), l[j]? = some o → o.dst = some t → t < a.tmps.size →
    (∀ i p, l[i]? = some p → p.dst = some t → i = j) → (fillL l k a v).eval (.tmp t) = v (k + j)
  | [], _, _, _, _, _, _, h, _, _, _ => by simp at h
  | o :: r, k, a, v, t, 0, p, h, hd, ht, hu => by
    simp at h; subst h
    show (fillL r (k + 1) (a.put o.dst (v k)) v).eval (.tmp t) = _
    rw [fill_out r (k + 1) _ v t, hd, put_self a t _ ht]; rfl
    intro q hq hqd
    obtain ⟨i, hi⟩ := List.getElem?_of_mem hq
    have := hu (i + 1) q (by simpa using hi) hqd
    omega
  | o :: r, k, a, v, t, j + 1, p, h, hd, ht, hu => by
    have := fill_in r (k + 1) (a.put o.dst (v k)) v t j p (by simpa using h) hd (by rw [put_size]; exact ht) (fun i q hq hqd => by
      have := hu (i + 1) q (by simpa using hq) hqd
      omega)
    rw [show k + (j + 1) = k + 1 + j from by omega]
    exact this

theorem act_ext {a b : Act} (hs : a.tmps.size = b.tmps.size) (hd : a.defers = b.defers) (h : ∀ t : Nat, t < a.tmps.size → a.eval (.tmp t) = b.eval (.tmp t)) : a = b := by
  obtain ⟨x, d⟩ := a
  obtain ⟨y, e⟩ := b
  simp only at hs hd
  subst hd
  have : x = y := by
    apply Array.ext hs
    intro i h1 h2
    have := h i h1
    simpa [Act.eval, h1, h2] using this
  rw [this]

theorem setD {L : Array Bool} {i j : Nat} (h : (L.setIfInBounds i true).getD j false = true) : j = i ∨ L.getD j false = true := by
  by_cases hij : j = i
  · exact .inl hij
  · refine .inr ?_
    simp only [Array.getD_eq_getD_getElem?, Array.getElem?_setIfInBounds_ne (Ne.symm hij)] at h ⊢
    exact h

/-- **what holds of each operation's value whatever the order** -/
theorem wp_region_each {id : Nat} {a0 : Act} {w0 : World} (V : Nat → Value → Value → World → Prop) (D : Nat → Nat) (C : World → Prop) (Step : Nat → World → World → Prop)
    (hm : P.follows .mixedOrders = true) (hB : regB ops a0.tmps.size D = true) (hC0 : C { w0 with drawn := w0.drawn + 1 })
    (hC : ∀ i w w', C w → Step i w w' → C w')
    (hV : ∀ i j x y w w', i < ops.size → j < ops.size → j ≠ i → C w → Step i w w' → V j x y w → V j x y w')
    (hop : ∀ i o, ops[i]? = some o → ∀ a w, C w → (∀ j, waitsFor o j = true → V j (valAt ops a j) (valAt ops a (D j)) w) →
      (∀ t, (∀ j, dstOf ops j ≠ some t) → a.eval (.tmp t) = a0.eval (.tmp t)) →
      wpOp P ops Q i (fun a' w' => ∃ x, a' = a.put o.dst x ∧ (o.dst = none → x = undef) ∧ V i x (if D i = i then x else valAt ops a (D i)) w' ∧ Step i w w') a w)
    (hend : ∀ v w, C w → (∀ j, j < ops.size → V j (v j) (v (D j)) w) → Q .normal (fillL ops.toList 0 a0 v) w) :
    (Code.region id ops true).wp P Q a0 w0 := by
  obtain ⟨_, hB⟩ := regB_spec hB
  have hdst : ∀ {i o}, ops[i]? = some o → dstOf ops i = o.dst := fun {i o} h => by simp [dstOf, h]
  refine wp_region_any hm (wpAny_inv (fun L a w => C w ∧ L.size = ops.size ∧ a.defers = a0.defers ∧ a.tmps.size = a0.tmps.size ∧
    (∀ t, (∀ j, L.getD j false = true → dstOf ops j ≠ some t) → a.eval (.tmp t) = a0.eval (.tmp t)) ∧
    (∀ j, L.getD j false = true → L.getD (D j) false = true ∧ V j (valAt ops a j) (valAt ops a (D j)) w)) ?_ ?_ _ _ _ _ ?_ ?_)
  · rintro L a w i ⟨c1, c2, c3, c4, c5, c6⟩ hi
    obtain ⟨hun, o, ho, haf⟩ := mem_ready.1 hi
    obtain ⟨hd1, hd2, _, hd3⟩ := hB i o ho
    have hin : i < ops.size := (Array.getElem?_eq_some_iff.1 ho).1
    have hil : i < L.size := by omega
    have hli : L.getD i false = false := by
      obtain ⟨h1, h2⟩ := getD_false hun
      simp [h1, h2]
    have hwait : ∀ j, waitsFor o j = true → L.getD j false = true := fun j hj => by
      unfold waitsFor at hj
      rw [Array.any_eq_true'] at hj
      obtain ⟨e, he, hb⟩ := hj
      simp only [Bool.and_eq_true, beq_iff_eq] at hb
      obtain ⟨hb, rfl⟩ := hb
      exact haf e he hb
    refine wpOp_mono ?_ (hop i o ho a w c1 (fun j hj => (c6 j (hwait j hj)).2) (fun t ht => c5 t (fun j _ => ht j)))
    rintro a' w' ⟨x, rfl, hx, hVi, hS⟩
    have hval : ∀ j, L.getD j false = true → valAt ops (a.put o.dst x) j = valAt ops a j := fun j hj => by
      unfold valAt
      cases hdj : dstOf ops j with
      | none => rfl
      | some d =>
        refine put_other a o.dst d x ?_
        rcases (hd3 j d hdj).1 with e | e
        · rw [e, hli] at hj; cases hj
        · exact e
    have hvali : valAt ops (a.put o.dst x) i = x := by
      unfold valAt
      rw [hdst ho]
      cases hod : o.dst with
      | none => exact (hx hod).symm
      | some d => exact put_self a d x (by rw [c4]; exact hd1 d hod)
    refine ⟨hC i w w' c1 hS, by simpa using c2, (put_def _ _ _).trans c3, (put_size _ _ _).trans c4, fun t ht => ?_, fun j hj => ?_⟩
    · have hit : o.dst ≠ some t := by
        rw [← hdst ho]
        refine ht i ?_
        simp [hil]
      rw [put_other a o.dst t x hit]
      refine c5 t fun j hj => ht j ?_
      by_cases hji : j = i
      · subst hji; rw [hli] at hj; cases hj
      · simp only [Array.getD_eq_getD_getElem?, Array.getElem?_setIfInBounds_ne (Ne.symm hji)] at hj ⊢
        exact hj
    · have up : ∀ k, L.getD k false = true → (L.setIfInBounds i true).getD k false = true := fun k hk => by
        by_cases hki : k = i
        · subst hki; rw [hli] at hk; cases hk
        · simp only [Array.getD_eq_getD_getElem?, Array.getElem?_setIfInBounds_ne (Ne.symm hki)] at hk ⊢
          exact hk
      by_cases hji : j = i
      · subst hji
        rw [hvali]
        rcases hd2 with e | e
        · rw [e, hvali]
          rw [if_pos e] at hVi
          exact ⟨by simp [hil], hVi⟩
        · have hDl := hwait _ e
          have hne : D j ≠ j := fun h => by rw [h, hli] at hDl; cases hDl
          rw [hval _ hDl]
          rw [if_neg hne] at hVi
          exact ⟨up _ hDl, hVi⟩
      · have hjl : L.getD j false = true := (setD hj).resolve_left hji
        obtain ⟨h1, h2⟩ := c6 j hjl
        have hjs : j < ops.size := by
          rw [← c2]
          by_cases h : j < L.size
          · exact h
          · simp [h] at hjl
        rw [hval j hjl, hval _ h1]
        exact ⟨up _ h1, hV i j _ _ w w' hin hjs hji c1 hS h2⟩
  · rintro L a w ⟨c1, c2, c3, c4, c5, c6⟩ hr
    have hall : ∀ n j, j < n → j < ops.size → L.getD j false = true := by
      intro n
      induction n with
      | zero => intro j hj; omega
      | succ n ih =>
        intro j hj hjs
        cases hl : L.getD j false with
        | true => rfl
        | false =>
          have ho : ops[j]? = some ops[j] := Array.getElem?_eq_getElem hjs
          have hjL : j < L.size := by omega
          have hu : L.getD j true = false := by simpa [hjL] using hl
          have hmem : j ∈ Region.ready .any ops L := mem_ready.2 ⟨hu, ops[j], ho, fun e he hb => by
            have h1 := (hB j _ ho).2.2.1 e he hb
            exact ih e.on (by omega) (by omega)⟩
          rw [hr] at hmem; cases hmem
    have hdl : ∀ j, j < ops.size → L.getD j false = true := fun j hj => hall (j + 1) j (by omega) hj
    have hfill : a = fillL ops.toList 0 a0 (valAt ops a) := by
      obtain ⟨f1, f2⟩ := fill_size ops.toList 0 a0 (valAt ops a)
      refine act_ext (c4.trans f1.symm) (c3.trans f2.symm) fun t ht => ?_
      have ht0 : t < a0.tmps.size := by rw [← c4]; exact ht
      by_cases hex : ∃ j, dstOf ops j = some t
      · obtain ⟨j, hj⟩ := hex
        obtain ⟨o, ho, hod⟩ : ∃ o, ops[j]? = some o ∧ o.dst = some t := by
          unfold dstOf at hj
          cases h : ops[j]? with
          | none => simp [h] at hj
          | some o => exact ⟨o, rfl, by simpa [h] using hj⟩
        rw [fill_in ops.toList 0 a0 (valAt ops a) t j o (by simpa using ho) hod ht0 (fun i p hi hp => by
          have hi' : ops[i]? = some p := by simpa using hi
          rcases ((hB j o ho).2.2.2 i t (by rw [hdst hi', hp])).1 with e | e
          · exact e
          · exact absurd hod e)]
        simp [valAt, hj]
      · rw [fill_out ops.toList 0 a0 (valAt ops a) t (fun p hp hpd => by
          obtain ⟨i, hi⟩ := List.getElem?_of_mem hp
          exact hex ⟨i, by rw [hdst (by simpa using hi), hpd]⟩)]
        exact c5 t fun j _ hj => hex ⟨j, hj⟩
    rw [hfill]
    exact hend _ w c1 fun j hj => (c6 j (hdl j hj)).2
  · refine ⟨hC0, by simp, rfl, rfl, fun _ _ => rfl, fun j hj => ?_⟩
    exfalso
    by_cases h : j < ops.size <;> simp [h] at hj
  · simp

/-- a guard that says yes -/
theorem want_yes {o : Oper} {a : Act} {g : Nat} {b : Bool} (hg : o.guard = some (g, b)) (h : valAt ops a g = .bool b) : Region.wanted o (yielded ops a.tmps) = true := by
  unfold Region.wanted
  rw [hg]
  unfold valAt dstOf at h
  unfold yielded
  cases hd : (ops[g]?).bind (·.dst) with
  | none => rw [hd] at h; cases h
  | some d =>
    rw [hd] at h
    simp only [Act.eval] at h
    have hs : a.tmps[d]? = some (.bool b) := by
      cases ht : a.tmps[d]? with
      | none => simp [ht] at h; cases h
      | some u => simp [ht] at h; rw [h]
    simp [hd, hs]
/-- a guard that says no -/
theorem want_no {o : Oper} {a : Act} {g : Nat} {b c : Bool} (hg : o.guard = some (g, b)) (h : valAt ops a g = .bool c) (hbc : c ≠ b) : Region.wanted o (yielded ops a.tmps) = false := by
  have := want_yes (o := { o with guard := some (g, c) }) rfl h
  unfold Region.wanted at *
  rw [hg]
  simp only [beq_iff_eq] at this ⊢
  simp [this, hbc]
theorem want_none {o : Oper} {a : Act} (hg : o.guard = none) : Region.wanted o (yielded ops a.tmps) = true := by
  unfold Region.wanted; rw [hg]

/-- how an operation runs, the frame behind a letter -/
def Runs (P : Program) (o : Oper) (a : Act) (w : World) (r : Result Next) : Prop :=
  ∀ ρ : Operand → Value, ρ = a.eval → (∀ x, ρ (.const x) = x) → (∀ f, ρ (.func f) = .func (.func f) #[] #[]) → (execOp ρ o).run P w = r
/-- an operation that hands back a value -/
theorem op_value {i : Nat} {o : Oper} {a : Act} {w w' : World} {K : Act → World → Prop} {v : Value} (ho : ops[i]? = some o) (hw : Region.wanted o (yielded ops a.tmps) = true)
    (hr : Runs P o a w (.ok (.value v) w')) (h : K (a.put o.dst v) w') : wpOp P ops Q i K a w := by
  unfold wpOp
  simp only [ho, hw, if_true]
  refine .inl ?_
  unfold Oper.wp
  rw [hr a.eval rfl (fun _ => rfl) (fun _ => rfl)]
  exact h
/-- one that hands back nothing -/
theorem op_skip {i : Nat} {o : Oper} {a : Act} {w w' : World} {K : Act → World → Prop} (ho : ops[i]? = some o) (hw : Region.wanted o (yielded ops a.tmps) = true)
    (hr : Runs P o a w (.ok .skip w')) (h : K (a.put o.dst undef) w') : wpOp P ops Q i K a w := by
  unfold wpOp
  simp only [ho, hw, if_true]
  refine .inl ?_
  unfold Oper.wp
  rw [hr a.eval rfl (fun _ => rfl) (fun _ => rfl)]
  exact h
/-- one that is not wanted -/
theorem op_none {i : Nat} {o : Oper} {a : Act} {w : World} {K : Act → World → Prop} (ho : ops[i]? = some o) (hw : Region.wanted o (yielded ops a.tmps) = false)
    (h : K (a.put o.dst undef) w) : wpOp P ops Q i K a w := by
  unfold wpOp
  simp only [ho, hw]
  exact h
/-- a call -/
theorem op_call {i : Nat} {o : Oper} {a : Act} {w w' : World} {K : Act → World → Prop} {f : FuncId} {args : Array Value} {R : Ending → World → Prop} (ho : ops[i]? = some o)
    (hw : Region.wanted o (yielded ops a.tmps) = true) (hr : Runs P o a w (.ok (.enter f args) w')) (hc : Calls P f args w' R)
    (h : ∀ e w'', R e w'' → ∃ v, e = .returned v ∧ K (a.put o.dst v) w'') : wpOp P ops Q i K a w := by
  unfold wpOp
  simp only [ho, hw, if_true]
  refine .inl ?_
  unfold Oper.wp
  rw [hr a.eval rfl (fun _ => rfl) (fun _ => rfl)]
  exact hc.mono fun e w'' he => by
    obtain ⟨v, rfl, hk⟩ := h e w'' he
    exact hk

/-- the operations one by one -/
def AllFrom (R : Nat → Oper → Prop) : List Oper → Nat → Prop
  | [], _ => True
  | o :: r, n => R n o ∧ AllFrom R r (n + 1)
theorem allFrom {R : Nat → Oper → Prop} : ∀ (l : List Oper) (n : Nat), AllFrom R l n → ∀ k o, l[k]? = some o → R (n + k) o
  | [], _, _, k, o, h => by simp at h
  | p :: r, n, h, 0, o, ho => by simp at ho; subst ho; exact h.1
  | p :: r, n, h, k + 1, o, ho => by
    have := allFrom r (n + 1) h.2 k o (by simpa using ho)
    rwa [show n + 1 + k = n + (k + 1) from by omega] at this

theorem dst_not {l : List Oper} {t : Tmp} (h : (l.all fun o => o.dst != some t) = true) : ∀ j, dstOf l.toArray j ≠ some t := fun j hj => by
  unfold dstOf at hj
  cases ho : l.toArray[j]? with
  | none => simp [ho] at hj
  | some o =>
    have hm : o ∈ l := by
      have : l[j]? = some o := by simpa using ho
      exact List.mem_of_getElem? this
    have := List.all_eq_true.1 h o hm
    simp [ho] at hj
    simp [hj] at this

/-- what stays as memory grows -/
def Stable (F : Value → Value → World → Prop) : Prop := ∀ x y w w', Below w.heap.size w w' → F x y w → F x y w'
theorem st_is (c : Value) : Stable (fun x _ _ => x = c) := fun _ _ _ _ _ h => h
theorem st_true : Stable (fun _ _ _ => True) := fun _ _ _ _ _ _ => trivial
def AllS : List (Value → Value → World → Prop) → Prop
  | [] => True
  | F :: r => Stable F ∧ AllS r
theorem all_st : ∀ (l : List (Value → Value → World → Prop)), AllS l → ∀ j, Stable (l.getD j (fun _ _ _ => True))
  | [], _, j => by simpa using st_true
  | F :: r, h, 0 => h.1
  | F :: r, h, j + 1 => by
    have := all_st r h.2 j
    simpa using this

/-- **the same, where memory only grows** -/
theorem wp_region_grow {id : Nat} {a0 : Act} {w0 : World} {l : List Oper} (Vs : List (Value → Value → World → Prop)) (D : Nat → Nat) (B : Nat) (w : World)
    (hm : P.follows .mixedOrders = true) (hB : regB l.toArray a0.tmps.size D = true) (hw : Below B w w0) (hBw : B ≤ w.heap.size)
    (hV : AllS Vs)
    (hop : AllFrom (fun i o => l.toArray[i]? = some o → ∀ a W, Below B w W → (∀ j, waitsFor o j = true → Vs.getD j (fun _ _ _ => True) (valAt l.toArray a j) (valAt l.toArray a (D j)) W) →
      (∀ t, (∀ j, dstOf l.toArray j ≠ some t) → a.eval (.tmp t) = a0.eval (.tmp t)) →
      wpOp P l.toArray Q i (fun a' w' => ∃ x, a' = a.put o.dst x ∧ (o.dst = none → x = undef) ∧ Vs.getD i (fun _ _ _ => True) x (if D i = i then x else valAt l.toArray a (D i)) w' ∧ Below W.heap.size W w') a W) l 0)
    (hend : ∀ v W, Below B w W → (∀ j, j < l.length → Vs.getD j (fun _ _ _ => True) (v j) (v (D j)) W) → Q .normal (fillL l 0 a0 v) W) :
    (Code.region id l.toArray true).wp P Q a0 w0 := by
  refine wp_region_each (fun j x y w => Vs.getD j (fun _ _ _ => True) x y w) D (fun W => Below B w W) (fun _ W W' => Below W.heap.size W W') hm hB hw.drew ?_ ?_ ?_ ?_
  · intro i W W' h1 h2
    exact h1.trans (h2.mono (Nat.le_trans hBw h1.size))
  · intro i j x y W W' _ _ _ _ h2 h3
    exact all_st Vs hV j x y W W' h2 h3
  · intro i o ho
    have := allFrom l 0 hop i o (by simpa using ho)
    rw [Nat.zero_add] at this
    exact this ho
  · intro v W h1 h2
    have := hend v W h1 (by simpa using h2)
    simpa using this

end
end Go.Proofs.Ytbiclekpkijknaa
