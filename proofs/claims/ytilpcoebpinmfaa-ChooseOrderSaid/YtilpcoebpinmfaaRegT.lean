/-
  The region law once more: a slot that is written last may be read before.
-/
import Derived.Test.YtilpcoebpinmfaaReg
namespace Go.Proofs.Ytilpcoebpinmfaa
open Go.RowKit

section
variable {P : Program} {ops : Array Oper} {Q : Exit → Act → World → Prop} {md : Region.Mode}

/-- the check: no select; each slot lies in the frame and is written once; who comes behind the first n1 waits for all ahead of it -/
def regC (ops : Array Oper) (n : Nat) (n1 : Nat) : Bool :=
  Region.noSelect ops && (List.range ops.size).all fun i => match ops[i]? with
    | none => true
    | some o =>
      (match o.dst with
        | some d => decide (d < n)
        | none => true) && (o.after.all fun e => !Region.binds .any e || decide (e.on < i)) &&
      (decide (i < n1) || (o.guard.isNone && (List.range i).all fun j => reaches ops ops.size i j)) &&
      (List.range ops.size).all fun j => match dstOf ops j with
        | none => true
        | some d => j == i || o.dst != some d

theorem regC_spec {n n1 : Nat} (h : regC ops n n1 = true) : Region.noSelect ops = true ∧ ∀ i o, ops[i]? = some o →
    (∀ d, o.dst = some d → d < n) ∧ (∀ e ∈ o.after, Region.binds .any e = true → e.on < i) ∧ (n1 ≤ i → o.guard = none ∧ ∀ j, j < i → reaches ops ops.size i j = true) ∧ ∀ j d, dstOf ops j = some d → (j = i ∨ o.dst ≠ some d) := by
  simp only [regC, Bool.and_eq_true, List.all_eq_true, List.mem_range] at h
  refine ⟨h.1, fun i o ho => ?_⟩
  have hi : i < ops.size := (Array.getElem?_eq_some_iff.1 ho).1
  have h1 := h.2 i hi
  simp only [ho, Bool.and_eq_true, List.all_eq_true, List.mem_range, Bool.or_eq_true, decide_eq_true_eq, Option.isNone_iff_eq_none] at h1
  obtain ⟨⟨⟨ha, he⟩, ht⟩, hc⟩ := h1
  refine ⟨fun d hd => by simpa [hd] using ha, fun e hm hbi => ?_, fun hn => ht.resolve_left (by omega), fun j d hd => ?_⟩
  · have := Array.all_eq_true'.1 he e hm
    simpa [hbi] using this
  · have hj : j < ops.size := by
      unfold dstOf at hd
      cases hp : ops[j]? with
      | none => simp [hp] at hd
      | some p => exact (Array.getElem?_eq_some_iff.1 hp).1
    have h2 := hc j hj
    simp only [hd, Bool.or_eq_true, beq_iff_eq, bne_iff_ne] at h2
    exact h2

theorem dst_notT {l : List Oper} {n1 : Nat} {t : Tmp} (h : ((l.take n1).all fun o => o.dst != some t) = true) : ∀ j, j < n1 → dstOf l.toArray j ≠ some t := fun j hn hj => by
  unfold dstOf at hj
  cases ho : l.toArray[j]? with
  | none => simp [ho] at hj
  | some o =>
    have hm : o ∈ l.take n1 := by
      have : l[j]? = some o := by simpa using ho
      exact List.mem_of_getElem? (i := j) (by rw [List.getElem?_take_of_lt hn]; exact this)
    have := List.all_eq_true.1 h o hm
    simp [ho] at hj
    simp [hj] at this

/-- **what holds of each operation's value whatever the order; what comes last comes last** -/
theorem wp_region_tail {dr : Bool} {id : Nat} {a0 : Act} {w0 : World} (l1 l2 : List Oper) (Vs : List (Value → Value → World → Prop)) (Al : Nat → Bool) (B : Nat) (w : World)
    (hm : P.follows .mixedOrders = true) (hB : regC (l1 ++ l2).toArray a0.tmps.size l1.length = true) (hw : Below B w w0) (hBw : B ≤ w.heap.size)
    (hV : AllS Vs)
    (hAl : ∀ i, Al i = true → ∀ x W, Vs.getD i (fun _ _ _ => True) x x W → ∃ g, x = ptr g ∧ g < W.heap.size)
    (hop : ∀ Q : Exit → Act → World → Prop, AllFrom (fun i o => (l1 ++ l2).toArray[i]? = some o → ∀ a W, Below B w W → (∀ j, j < l1.length → waitsFor o j = true → Vs.getD j (fun _ _ _ => True) (valAt (l1 ++ l2).toArray a j) (valAt (l1 ++ l2).toArray a j) W) →
      (∀ t, (∀ j, j < l1.length → dstOf (l1 ++ l2).toArray j ≠ some t) → a.eval (.tmp t) = a0.eval (.tmp t)) →
      wpOp P (l1 ++ l2).toArray Q i (fun a' w' => ∃ x, a' = a.put o.dst x ∧ (o.dst = none → x = undef) ∧ Vs.getD i (fun _ _ _ => True) x x w' ∧ Below W.heap.size W w' ∧ (Al i = true → ∃ g, x = ptr g ∧ W.heap.size ≤ g)) a W) l1 0)
    (hend : ∀ v W, Below B w W → (∀ j, j < l1.length → Vs.getD j (fun _ _ _ => True) (v j) (v j) W) → (∀ i j, i < l1.length → j < l1.length → i ≠ j → Al i = true → Al j = true → v i ≠ v j) →
      wpTail P Q l2 (fillL l1 0 a0 v) W) :
    (Code.region id (l1 ++ l2).toArray dr).wp P Q a0 w0 := by
  obtain ⟨ops, hops⟩ : ∃ ops, ops = (l1 ++ l2).toArray := ⟨_, rfl⟩
  have hget1 : ∀ i o, i < l1.length → (ops[i]? = some o ↔ l1[i]? = some o) := fun i o hi => by rw [hops]; simp [List.getElem?_append_left hi]
  have hget2 : ∀ m, ops[l1.length + m]? = l2[m]? := fun m => by rw [hops]; simp [List.getElem?_append_right]
  have hsz : ops.size = l1.length + l2.length := by rw [hops]; simp
  rw [← hops] at hB hop ⊢
  obtain ⟨_, hB⟩ := regC_spec hB
  have hdst : ∀ {i o}, ops[i]? = some o → dstOf ops i = o.dst := fun {i o} h => by simp [dstOf, h]
  have hop' : ∀ i o, i < l1.length → ops[i]? = some o → _ := fun i o hi ho => by
    have := allFrom l1 0 (hop Q) i o ((hget1 i o hi).1 ho)
    rw [Nat.zero_add] at this
    exact this ho
  refine region_inv (fun L a W => L.size = ops.size ∧ (∀ k o, ops[k]? = some o → L.getD k false = true → ∀ e ∈ o.after, Region.binds .any e = true → L.getD e.on false = true) ∧
    (((∀ k, l1.length ≤ k → L.getD k false = false) ∧ Below B w W ∧ a.defers = a0.defers ∧ a.tmps.size = a0.tmps.size ∧
      (∀ t, (∀ j, L.getD j false = true → dstOf ops j ≠ some t) → a.eval (.tmp t) = a0.eval (.tmp t)) ∧
      (∀ j, L.getD j false = true → Vs.getD j (fun _ _ _ => True) (valAt ops a j) (valAt ops a j) W) ∧
      (∀ i j, L.getD i false = true → L.getD j false = true → i ≠ j → Al i = true → Al j = true → valAt ops a i ≠ valAt ops a j)) ∨
     (∃ m, (∀ k, k < ops.size → (L.getD k false = true ↔ k < l1.length + m)) ∧ wpTail P Q (l2.drop m) a W))) hm (fun i o ho => (hB i o ho).2.1) ?_ ?_ ?_
  · rintro L a W i ⟨c2, ccl, hph⟩ hi
    obtain ⟨hun, o, ho, haf⟩ := mem_ready.1 hi
    obtain ⟨hd1, hd2, hd4, hd3⟩ := hB i o ho
    have hin : i < ops.size := (Array.getElem?_eq_some_iff.1 ho).1
    have hil : i < L.size := by omega
    have hli : L.getD i false = false := by
      obtain ⟨h1, h2⟩ := getD_false hun
      simp [h1, h2]
    have setN : ∀ k, k ≠ i → (L.setIfInBounds i true).getD k false = L.getD k false := fun k hk => by
      simp only [Array.getD_eq_getD_getElem?, Array.getElem?_setIfInBounds_ne (Ne.symm hk)]
    have setI : (L.setIfInBounds i true).getD i false = true := by simp [hil]
    have up : ∀ k, L.getD k false = true → (L.setIfInBounds i true).getD k false = true := fun k hk => by
      by_cases hki : k = i
      · rw [hki]; exact setI
      · rw [setN k hki]; exact hk
    have ccl' : ∀ k o, ops[k]? = some o → (L.setIfInBounds i true).getD k false = true → ∀ e ∈ o.after, Region.binds .any e = true → (L.setIfInBounds i true).getD e.on false = true := fun k p hp hk e he hb => by
      rcases setD hk with rfl | hk
      · rw [ho] at hp; cases hp
        exact up _ (haf e he hb)
      · exact up _ (ccl k p hp hk e he hb)
    have hall : l1.length ≤ i → ∀ j, j < i → L.getD j false = true := fun hn j hj =>
      reaches_spec ccl ops.size i j (fun p hp => by rw [ho] at hp; cases hp; exact haf) ((hd4 hn).2 j hj)
    rcases hph with ⟨c0, c1, c3, c4, c5, c6, c7⟩ | ⟨m, hmL, hT⟩
    · by_cases hin1 : i < l1.length
      · have hwait : ∀ j, waitsFor o j = true → L.getD j false = true := fun j hj => by
          unfold waitsFor at hj
          rw [Array.any_eq_true'] at hj
          obtain ⟨e, he, hb⟩ := hj
          simp only [Bool.and_eq_true, beq_iff_eq] at hb
          obtain ⟨hb, rfl⟩ := hb
          exact haf e he hb
        refine wpOp_mono ?_ (hop' i o hin1 ho a W c1 (fun j _ hj => c6 j (hwait j hj)) (fun t ht => c5 t (fun j hj => ht j ((Nat.lt_or_ge j l1.length).resolve_right (fun h => by rw [c0 j h] at hj; cases hj)))))
        rintro a' w' ⟨x, rfl, hx, hVi, hS, hAli⟩
        have hval : ∀ j, L.getD j false = true → valAt ops (a.put o.dst x) j = valAt ops a j := fun j hj => by
          unfold valAt
          cases hdj : dstOf ops j with
          | none => rfl
          | some d =>
            refine put_other a o.dst d x ?_
            rcases hd3 j d hdj with e | e
            · rw [e, hli] at hj; cases hj
            · exact e
        have hvali : valAt ops (a.put o.dst x) i = x := by
          unfold valAt
          rw [hdst ho]
          cases hod : o.dst with
          | none => exact (hx hod).symm
          | some d => exact put_self a d x (by rw [c4]; exact hd1 d hod)
        have hfar : ∀ j, L.getD j false = true → Al i = true → Al j = true → x ≠ valAt ops a j := fun j hj h1 h2 he => by
          obtain ⟨g, hg, hgl⟩ := hAl j h2 _ _ (c6 j hj)
          obtain ⟨g', hg', hgl'⟩ := hAli h1
          rw [← he, hg'] at hg
          unfold ptr at hg
          injection hg with hg
          injection hg with hg
          injection hg with hg
          omega
        refine ⟨by simpa using c2, ccl', .inl ⟨fun k hk => by rw [setN k (by omega)]; exact c0 k hk, c1.trans (hS.mono (Nat.le_trans hBw c1.size)), (put_def _ _ _).trans c3, (put_size _ _ _).trans c4, fun t ht => ?_, fun j hj => ?_, fun j k hj hk hjk ha1 ha2 => ?_⟩⟩
        · have hit : o.dst ≠ some t := by
            rw [← hdst ho]
            exact ht i setI
          rw [put_other a o.dst t x hit]
          exact c5 t fun j hj => ht j (up j hj)
        · rcases setD hj with rfl | hj
          · rw [hvali]; exact hVi
          · rw [hval j hj]
            exact all_st Vs hV j _ _ W w' hS (c6 j hj)
        · rcases setD hj with rfl | hj2
          · rcases setD hk with rfl | hk2
            · exact absurd rfl hjk
            · rw [hvali, hval k hk2]; exact hfar k hk2 ha1 ha2
          · rcases setD hk with rfl | hk2
            · rw [hvali, hval j hj2]; exact (hfar j hj2 ha2 ha1).symm
            · rw [hval j hj2, hval k hk2]; exact c7 j k hj2 hk2 hjk ha1 ha2
      · have hie : i = l1.length := by
          rcases Nat.lt_or_ge l1.length i with h | h
          · have h1 := hall (by omega) l1.length h
            rw [c0 _ (Nat.le_refl _)] at h1; cases h1
          · omega
        have hlist : ∀ j, j < l1.length → L.getD j false = true := fun j hj => hall (by omega) j (by omega)
        have hfill : a = fillL l1 0 a0 (valAt ops a) := by
          obtain ⟨f1, f2⟩ := fill_size l1 0 a0 (valAt ops a)
          refine act_ext (c4.trans f1.symm) (c3.trans f2.symm) fun t ht => ?_
          have ht0 : t < a0.tmps.size := by rw [← c4]; exact ht
          by_cases hex : ∃ j, j < l1.length ∧ dstOf ops j = some t
          · obtain ⟨j, hjl, hj⟩ := hex
            obtain ⟨p, hp, hpd⟩ : ∃ p, ops[j]? = some p ∧ p.dst = some t := by
              unfold dstOf at hj
              cases h : ops[j]? with
              | none => simp [h] at hj
              | some p => exact ⟨p, rfl, by simpa [h] using hj⟩
            rw [fill_in l1 0 a0 (valAt ops a) t j p ((hget1 j p hjl).1 hp) hpd ht0 (fun k q hk hq => by
              have hk' : ops[k]? = some q := (hget1 k q (List.getElem?_eq_some_iff.1 hk).1).2 hk
              rcases (hB j p hp).2.2.2 k t (by rw [hdst hk', hq]) with e | e
              · exact e
              · exact absurd hpd e)]
            simp [valAt, hj]
          · rw [fill_out l1 0 a0 (valAt ops a) t (fun p hp hpd => by
              obtain ⟨k, hk⟩ := List.getElem?_of_mem hp
              have hkl := (List.getElem?_eq_some_iff.1 hk).1
              exact hex ⟨k, hkl, by rw [hdst ((hget1 k p hkl).2 hk), hpd]⟩)]
            exact c5 t fun j hj hjt => by
              rcases Nat.lt_or_ge j l1.length with h | h
              · exact hex ⟨j, h, hjt⟩
              · rw [c0 j h] at hj; cases hj
        have hT := hend (valAt ops a) W c1 (fun j hj => c6 j (hlist j hj)) (fun j k hj hk => c7 j k (hlist j hj) (hlist k hk))
        rw [← hfill] at hT
        have ho2 : l2[0]? = some o := by rw [← hget2 0, Nat.add_zero, ← hie]; exact ho
        cases l2 with
        | nil => simp at ho2
        | cons p r =>
          simp at ho2; subst ho2
          unfold wpOp
          rw [ho]
          simp only [want_none (hd4 (by omega)).1, if_true]
          refine .inl (Oper.wp_mono (fun a' w' h => ⟨by simpa using c2, ccl', .inr ⟨1, fun k hk => ?_, by simpa using h⟩⟩) hT)
          by_cases hki : k = i
          · rw [hki, setI]; simp; omega
          · rw [setN k hki]
            rcases Nat.lt_or_ge k l1.length with h | h
            · rw [hlist k h]; simp; omega
            · rw [c0 k h]; simp; omega
    · have hie : i = l1.length + m := by
        have h1 : ¬ i < l1.length + m := fun h => by rw [(hmL i hin).2 h] at hli; cases hli
        rcases Nat.lt_or_ge (l1.length + m) i with h | h
        · have h2 := hall (by omega) (l1.length + m) h
          have := (hmL (l1.length + m) (by omega)).1 h2
          omega
        · omega
      have ho2 : l2[m]? = some o := by rw [← hget2 m, ← hie]; exact ho
      have hml : m < l2.length := (List.getElem?_eq_some_iff.1 ho2).1
      rw [List.drop_eq_getElem_cons hml] at hT
      have hoe : l2[m] = o := by
        have := List.getElem?_eq_getElem hml
        rw [this] at ho2; injection ho2
      rw [hoe] at hT
      unfold wpOp
      rw [ho]
      simp only [want_none (hd4 (by omega)).1, if_true]
      refine .inl (Oper.wp_mono (fun a' w' h => ⟨by simpa using c2, ccl', .inr ⟨m + 1, fun k hk => ?_, h⟩⟩) hT)
      by_cases hki : k = i
      · rw [hki, setI]; simp; omega
      · rw [setN k hki, hmL k hk]; omega
  · rintro L a W ⟨c2, ccl, hph⟩ hr
    have hall : ∀ n j, j < n → j < ops.size → L.getD j false = true := by
      intro n
      induction n with
      | zero => intro j hj; omega
      | succ n ih =>
        intro j hj hjs
        cases hl : L.getD j false with
        | true => rfl
        | false =>
          have ho : ops[j]? = some ops[j] := Array.getElem?_eq_getElem hjs
          have hjL : j < L.size := by omega
          have hu : L.getD j true = false := by simpa [hjL] using hl
          have hmem : j ∈ Region.ready .any ops L := mem_ready.2 ⟨hu, ops[j], ho, fun e he hb => by
            have h1 := (hB j _ ho).2.1 e he hb
            exact ih e.on (by omega) (by omega)⟩
          rw [hr] at hmem; cases hmem
    have hdl : ∀ j, j < ops.size → L.getD j false = true := fun j hj => hall (j + 1) j (by omega) hj
    rcases hph with ⟨c0, c1, c3, c4, c5, c6, c7⟩ | ⟨m, hmL, hT⟩
    · have hl2 : l2 = [] := by
        cases l2 with
        | nil => rfl
        | cons p r =>
          have h1 := hdl l1.length (by rw [hsz]; simp)
          rw [c0 _ (Nat.le_refl _)] at h1; cases h1
      have hlist : ∀ j, j < l1.length → L.getD j false = true := fun j hj => hdl j (by rw [hsz]; omega)
      have hfill : a = fillL l1 0 a0 (valAt ops a) := by
        obtain ⟨f1, f2⟩ := fill_size l1 0 a0 (valAt ops a)
        refine act_ext (c4.trans f1.symm) (c3.trans f2.symm) fun t ht => ?_
        have ht0 : t < a0.tmps.size := by rw [← c4]; exact ht
        by_cases hex : ∃ j, j < l1.length ∧ dstOf ops j = some t
        · obtain ⟨j, hjl, hj⟩ := hex
          obtain ⟨p, hp, hpd⟩ : ∃ p, ops[j]? = some p ∧ p.dst = some t := by
            unfold dstOf at hj
            cases h : ops[j]? with
            | none => simp [h] at hj
            | some p => exact ⟨p, rfl, by simpa [h] using hj⟩
          rw [fill_in l1 0 a0 (valAt ops a) t j p ((hget1 j p hjl).1 hp) hpd ht0 (fun k q hk hq => by
            have hk' : ops[k]? = some q := (hget1 k q (List.getElem?_eq_some_iff.1 hk).1).2 hk
            rcases (hB j p hp).2.2.2 k t (by rw [hdst hk', hq]) with e | e
            · exact e
            · exact absurd hpd e)]
          simp [valAt, hj]
        · rw [fill_out l1 0 a0 (valAt ops a) t (fun p hp hpd => by
            obtain ⟨k, hk⟩ := List.getElem?_of_mem hp
            have hkl := (List.getElem?_eq_some_iff.1 hk).1
            exact hex ⟨k, hkl, by rw [hdst ((hget1 k p hkl).2 hk), hpd]⟩)]
          exact c5 t fun j hj hjt => by
            rcases Nat.lt_or_ge j l1.length with h | h
            · exact hex ⟨j, h, hjt⟩
            · rw [c0 j h] at hj; cases hj
      have hT := hend (valAt ops a) W c1 (fun j hj => c6 j (hlist j hj)) (fun j k hj hk => c7 j k (hlist j hj) (hlist k hk))
      rw [← hfill, hl2] at hT
      exact hT
    · have hm2 : l2.length ≤ m := by
        rcases Nat.lt_or_ge m l2.length with h | h
        · have h1 := (hmL (l1.length + m) (by rw [hsz]; omega)).1 (hdl _ (by rw [hsz]; omega))
          omega
        · exact h
      rw [List.drop_eq_nil_of_le hm2] at hT
      exact hT
  · intro w' hw'
    have hwd : Below B w w' := hw'.elim (fun e => by rw [e]; exact hw) (fun e => by rw [e]; exact hw.drew)
    refine ⟨by simp, fun k o _ hk => ?_, .inl ⟨fun k _ => ?_, hwd, rfl, rfl, fun _ _ => rfl, fun j hj => ?_, fun i j hi => ?_⟩⟩
    · exfalso
      by_cases h : k < ops.size <;> simp [h] at hk
    · by_cases h : k < ops.size <;> simp [h]
    · exfalso
      by_cases h : j < ops.size <;> simp [h] at hj
    · exfalso
      by_cases h : i < ops.size <;> simp [h] at hi

/-- the same, the first n1 operations told by their number -/
theorem wp_region_tails {dr : Bool} {id : Nat} {a0 : Act} {w0 : World} {l : List Oper} (n1 : Nat) (Vs : List (Value → Value → World → Prop)) (Al : Nat → Bool) (B : Nat) (w : World)
    (hm : P.follows .mixedOrders = true) (hn : decide (n1 ≤ l.length) = true) (hB : regC l.toArray a0.tmps.size n1 = true) (hw : Below B w w0) (hBw : B ≤ w.heap.size)
    (hV : AllS Vs)
    (hAl : ∀ i, Al i = true → ∀ x W, Vs.getD i (fun _ _ _ => True) x x W → ∃ g, x = ptr g ∧ g < W.heap.size)
    (hop : ∀ Q : Exit → Act → World → Prop, AllFrom (fun i o => l.toArray[i]? = some o → ∀ a W, Below B w W → (∀ j, waitsFor o j = true → Vs.getD j (fun _ _ _ => True) (valAt l.toArray a j) (valAt l.toArray a j) W) →
      (∀ t, (∀ j, j < n1 → dstOf l.toArray j ≠ some t) → a.eval (.tmp t) = a0.eval (.tmp t)) →
      wpOp P l.toArray Q i (fun a' w' => ∃ x, a' = a.put o.dst x ∧ (o.dst = none → x = undef) ∧ Vs.getD i (fun _ _ _ => True) x x w' ∧ Below W.heap.size W w' ∧ (Al i = true → ∃ g, x = ptr g ∧ W.heap.size ≤ g)) a W) (l.take n1) 0)
    (hend : ∀ v W, Below B w W → (∀ j, j < n1 → Vs.getD j (fun _ _ _ => True) (v j) (v j) W) → (∀ i j, i < n1 → j < n1 → i ≠ j → Al i = true → Al j = true → v i ≠ v j) →
      wpTail P Q (l.drop n1) (fillL (l.take n1) 0 a0 v) W) :
    (Code.region id l.toArray dr).wp P Q a0 w0 := by
  have hl : l.take n1 ++ l.drop n1 = l := List.take_append_drop n1 l
  have hlen : (l.take n1).length = n1 := by have := of_decide_eq_true hn; simp; omega
  obtain ⟨l1, h1⟩ : ∃ l1, l1 = l.take n1 := ⟨_, rfl⟩
  obtain ⟨l2, h2⟩ : ∃ l2, l2 = l.drop n1 := ⟨_, rfl⟩
  rw [← h1, ← h2] at hl hend
  rw [← h1] at hlen hop
  clear h1 h2
  subst hl
  subst hlen
  refine wp_region_tail l1 l2 Vs Al B w hm hB hw hBw hV hAl ?_ hend
  have conv : ∀ (m : List Oper) (k : Nat) {R R' : Nat → Oper → Prop}, (∀ i o, i < k + m.length → R i o → R' i o) → AllFrom R m k → AllFrom R' m k := by
    intro m
    induction m with
    | nil => intro _ _ _ _ _; trivial
    | cons o r ih => intro k R R' h hh; exact ⟨h k o (by simp) hh.1, ih (k + 1) (fun i o hi => h i o (by simp; omega)) hh.2⟩
  intro Q
  refine conv l1 0 ?_ (hop Q)
  intro i o hi h ho a W hW hd hx
  have hreg := (regC_spec hB).2 i o ho
  refine h ho a W hW (fun j hj => hd j ?_ hj) hx
  unfold waitsFor at hj
  rw [Array.any_eq_true'] at hj
  obtain ⟨e, he, hb⟩ := hj
  simp only [Bool.and_eq_true, beq_iff_eq] at hb
  have := hreg.2.1 e he hb.1
  rw [hb.2] at this
  omega

end
end Go.Proofs.Ytilpcoebpinmfaa
