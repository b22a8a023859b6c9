/-
  Plain mathematics: the order of records.
-/
import Derived.Test.YtilpcoebpinmfaaTwice
namespace Go.Proofs.Ytilpcoebpinmfaa

theorem one_seen (t : Ty) (s : Rc) : (oneT t s).seen = mx t.seen s.mbal := by
  unfold oneT hereT; dsimp only; (repeat' split) <;> rfl
theorem one_aheads (t : Ty) (s : Rc) : (oneT t s).ahead = (t.ahead || decide (t.inst < s.inst)) := by
  unfold oneT hereT; dsimp only
  by_cases h : t.inst < s.inst
  · simp [h]
  · by_cases h2 : s.inst = t.inst <;> simp [h, h2]
theorem one_lost (t : Ty) (s : Rc) : (oneT t s).lost = (t.lost || (decide (s.inst = t.inst) && decide (t.mbal < s.mbal))) := by
  unfold oneT hereT; dsimp only
  by_cases h : t.inst < s.inst
  · have h2 : ¬ s.inst = t.inst := by omega
    simp [h, h2]
  · by_cases h2 : s.inst = t.inst <;> simp [h2, h]
theorem one_best (t : Ty) (s : Rc) : (oneT t s).best = (if s.inst = t.inst ∧ t.best < s.bal then s.bal else t.best) ∧ (oneT t s).val = (if s.inst = t.inst ∧ t.best < s.bal then s.val else t.val) := by
  unfold oneT hereT; dsimp only
  by_cases h : t.inst < s.inst
  · have h2 : ¬ s.inst = t.inst := by omega
    simp [h, h2]
  · by_cases h2 : s.inst = t.inst <;> simp [h2, h]

theorem cnt_keep : ∀ (l : List Rc) (t : Ty), (countT t l).inst = t.inst ∧ (countT t l).mbal = t.mbal
  | [], _ => ⟨rfl, rfl⟩
  | s :: l, t => by
    obtain ⟨h1, h2⟩ := cnt_keep l (oneT t s)
    obtain ⟨k1, k2⟩ := one_keep t s
    exact ⟨h1.trans k1, h2.trans k2⟩
theorem cnt_seen : ∀ (l : List Rc) (t : Ty) (x : Int), (countT t l).seen ≤ x ↔ t.seen ≤ x ∧ ∀ r ∈ l, r.mbal ≤ x
  | [], t, x => by simp [countT]
  | s :: l, t, x => by
    show (countT (oneT t s) l).seen ≤ x ↔ _
    rw [cnt_seen l, one_seen]
    have h1 := mx_le t.seen s.mbal
    have h2 : mx t.seen s.mbal = t.seen ∨ mx t.seen s.mbal = s.mbal := by unfold mx; split <;> simp
    simp only [List.mem_cons, forall_eq_or_imp]
    constructor
    · rintro ⟨a, b⟩; exact ⟨by omega, by omega, b⟩
    · rintro ⟨a, b, c⟩; exact ⟨by omega, c⟩
theorem cnt_best : ∀ (l : List Rc) (t : Ty) (x : Int), (countT t l).best ≤ x ↔ t.best ≤ x ∧ ∀ r ∈ l, r.inst = t.inst → r.bal ≤ x
  | [], t, x => by simp [countT]
  | s :: l, t, x => by
    show (countT (oneT t s) l).best ≤ x ↔ _
    rw [cnt_best l, (one_best t s).1, (one_keep t s).1]
    simp only [List.mem_cons, forall_eq_or_imp]
    by_cases h : s.inst = t.inst ∧ t.best < s.bal
    · rw [if_pos h]
      constructor
      · rintro ⟨a, b⟩; exact ⟨by omega, fun _ => a, b⟩
      · rintro ⟨a, b, c⟩; exact ⟨b h.1, c⟩
    · rw [if_neg h]
      constructor
      · rintro ⟨a, b⟩; exact ⟨a, fun e => by omega, b⟩
      · rintro ⟨a, b, c⟩; exact ⟨a, c⟩
theorem cnt_ahead : ∀ (l : List Rc) (t : Ty), (countT t l).ahead = (t.ahead || l.any fun r => decide (t.inst < r.inst))
  | [], t => by simp [countT]
  | s :: l, t => by
    show (countT (oneT t s) l).ahead = _
    rw [cnt_ahead l, one_aheads, (one_keep t s).1, List.any_cons, Bool.or_assoc]
theorem cnt_lost : ∀ (l : List Rc) (t : Ty), (countT t l).lost = (t.lost || l.any fun r => decide (r.inst = t.inst) && decide (t.mbal < r.mbal))
  | [], t => by simp [countT]
  | s :: l, t => by
    show (countT (oneT t s) l).lost = _
    rw [cnt_lost l, one_lost, (one_keep t s).1, (one_keep t s).2, List.any_cons, Bool.or_assoc]
theorem cnt_val : ∀ (l : List Rc) (t : Ty), ((countT t l).best = t.best ∧ (countT t l).val = t.val) ∨ ∃ r ∈ l, r.inst = t.inst ∧ r.bal = (countT t l).best ∧ r.val = (countT t l).val
  | [], t => .inl ⟨rfl, rfl⟩
  | s :: l, t => by
    show ((countT (oneT t s) l).best = t.best ∧ (countT (oneT t s) l).val = t.val) ∨ ∃ r ∈ s :: l, r.inst = t.inst ∧ r.bal = (countT (oneT t s) l).best ∧ r.val = (countT (oneT t s) l).val
    obtain ⟨b1, b2⟩ := one_best t s
    rcases cnt_val l (oneT t s) with ⟨h1, h2⟩ | ⟨r, hr, h1, h2, h3⟩
    · by_cases h : s.inst = t.inst ∧ t.best < s.bal
      · rw [if_pos h] at b1 b2
        exact .inr ⟨s, List.mem_cons_self, h.1, by rw [h1, b1], by rw [h2, b2]⟩
      · rw [if_neg h] at b1 b2
        exact .inl ⟨by rw [h1, b1], by rw [h2, b2]⟩
    · exact .inr ⟨r, List.mem_cons_of_mem _ hr, by rw [h1, (one_keep t s).1], h2, h3⟩

theorem le_eq {a b : Int} (h : ∀ x, a ≤ x ↔ b ≤ x) : a = b := by
  have h1 := (h b).2 (Int.le_refl _)
  have h2 := (h a).1 (Int.le_refl _)
  omega

/-- the order makes no difference -/
theorem cnt_order (t : Ty) (l : List Rc) : (countT t l.reverse).seen = (countT t l).seen ∧ (countT t l.reverse).ahead = (countT t l).ahead ∧ (countT t l.reverse).lost = (countT t l).lost ∧ (countT t l.reverse).best = (countT t l).best := by
  refine ⟨le_eq fun x => ?_, ?_, ?_, le_eq fun x => ?_⟩
  · rw [cnt_seen, cnt_seen]; simp
  · rw [cnt_ahead, cnt_ahead, List.any_reverse]
  · rw [cnt_lost, cnt_lost, List.any_reverse]
  · rw [cnt_best, cnt_best]; simp

/-- records of one ballot are alike -/
def alike (o : Int) (l : List Rc) : Prop := ∀ r ∈ l, ∀ s ∈ l, r.inst = o → s.inst = o → r.bal = s.bal → r.val = s.val

theorem cnt_alike (own : Rc) (l : List Rc) (h : alike own.inst (own :: l)) : (countT (begun own 0) l.reverse).val = (countT (begun own 0) l).val := by
  have key : ∀ m : List Rc, (∀ r ∈ m, r ∈ l) → ∃ r ∈ own :: l, r.inst = own.inst ∧ r.bal = (countT (begun own 0) m).best ∧ r.val = (countT (begun own 0) m).val := by
    intro m hm
    rcases cnt_val m (begun own 0) with ⟨h1, h2⟩ | ⟨r, hr, h1, h2, h3⟩
    · exact ⟨own, List.mem_cons_self, rfl, h1.symm, h2.symm⟩
    · exact ⟨r, List.mem_cons_of_mem _ (hm r hr), h1, h2, h3⟩
  obtain ⟨r, hr, r1, r2, r3⟩ := key l (fun _ h => h)
  obtain ⟨s, hs, s1, s2, s3⟩ := key l.reverse (fun _ h => by simpa using h)
  rw [← s3, ← r3]
  exact h s hs r hr s1 r1 (by rw [s2, r2, (cnt_order _ _).2.2.2])

end Go.Proofs.Ytilpcoebpinmfaa
