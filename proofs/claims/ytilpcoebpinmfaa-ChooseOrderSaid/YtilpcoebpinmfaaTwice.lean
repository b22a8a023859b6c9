/-
  Plain mathematics: records counted in parts, and twice.
-/
import Derived.Test.YtilpcoebpinmfaaPlain
namespace Go.Proofs.Ytilpcoebpinmfaa

/-- a record that was counted -/
def absb (t : Ty) (r : Rc) : Prop := r.mbal ≤ t.seen ∧ (t.inst < r.inst → t.ahead = true) ∧ (r.inst = t.inst → (t.mbal < r.mbal → t.lost = true) ∧ r.bal ≤ t.best)

theorem one_keep (t : Ty) (r : Rc) : (oneT t r).inst = t.inst ∧ (oneT t r).mbal = t.mbal := by
  unfold oneT hereT
  dsimp only
  (repeat' split) <;> exact ⟨rfl, rfl⟩
theorem mx_le (a b : Int) : a ≤ mx a b ∧ b ≤ mx a b := by unfold mx; split <;> omega

theorem abs_self (t : Ty) (r : Rc) : absb (oneT t r) r := by
  obtain ⟨h1, h2⟩ := one_keep t r
  refine ⟨?_, ?_, ?_⟩
  · unfold oneT hereT
    dsimp only
    have := (mx_le t.seen r.mbal).2
    (repeat' split) <;> exact this
  · rw [h1]
    intro h
    unfold oneT
    dsimp only
    rw [if_pos h]
  · rw [h1, h2]
    intro h
    have hn : ¬ t.inst < r.inst := by omega
    unfold oneT hereT
    dsimp only
    rw [if_neg hn, if_pos h]
    dsimp only
    refine ⟨fun hl => by simp [hl], ?_⟩
    split <;> omega

theorem abs_more (t : Ty) (r s : Rc) (h : absb t r) : absb (oneT t s) r := by
  obtain ⟨h1, h2⟩ := one_keep t s
  obtain ⟨a1, a2, a3⟩ := h
  refine ⟨?_, ?_, ?_⟩
  · unfold oneT hereT
    dsimp only
    have := (mx_le t.seen s.mbal).1
    (repeat' split) <;> (show r.mbal ≤ mx t.seen s.mbal; omega)
  · rw [h1]
    intro h
    have := a2 h
    unfold oneT hereT
    dsimp only
    (repeat' split) <;> simp [this]
  · rw [h1, h2]
    intro h
    obtain ⟨b1, b2⟩ := a3 h
    unfold oneT hereT
    dsimp only
    refine ⟨fun hl => ?_, ?_⟩
    · have := b1 hl
      (repeat' split) <;> simp [this]
    · (repeat' split) <;> (first | exact b2 | (show r.bal ≤ s.bal; omega) | (dsimp only; split <;> omega))

theorem one_abs (t : Ty) (r : Rc) (h : absb t r) : oneT t r = t := by
  obtain ⟨a1, a2, a3⟩ := h
  have hm : mx t.seen r.mbal = t.seen := by unfold mx; rw [if_neg (by omega)]
  unfold oneT
  dsimp only
  rw [hm]
  by_cases h1 : t.inst < r.inst
  · rw [if_pos h1, ← a2 h1]
  · rw [if_neg h1]
    by_cases h2 : r.inst = t.inst
    · rw [if_pos h2]
      obtain ⟨b1, b2⟩ := a3 h2
      unfold hereT
      have hb : ¬ t.best < r.bal := by omega
      dsimp only
      rw [if_neg hb, if_neg hb]
      by_cases hl : t.mbal < r.mbal
      · simp [hl, b1 hl]
        rw [← b1 hl]
      · simp [hl]
    · rw [if_neg h2]

theorem abs_count : ∀ (l : List Rc) (t : Ty) (r : Rc), absb t r → absb (countT t l) r
  | [], _, _, h => h
  | s :: l, t, r, h => abs_count l (oneT t s) r (abs_more t r s h)
theorem abs_all : ∀ (l : List Rc) (t : Ty) (r : Rc), r ∈ l → absb (countT t l) r
  | s :: l, t, r, h => by
    rcases List.mem_cons.1 h with rfl | h
    · exact abs_count l (oneT t r) r (abs_self t r)
    · exact abs_all l (oneT t s) r h
theorem count_abs : ∀ (l : List Rc) (t : Ty), (∀ r ∈ l, absb t r) → countT t l = t
  | [], _, _ => rfl
  | s :: l, t, h => by
    show countT (oneT t s) l = t
    rw [one_abs t s (h s List.mem_cons_self)]
    exact count_abs l t (fun r hr => h r (List.mem_cons_of_mem _ hr))
theorem count_twice (l : List Rc) (t : Ty) : countT (countT t l) l = countT t l := count_abs l _ (fun r hr => abs_all l t r hr)
theorem count_parts (l : List Rc) (t : Ty) (k : Nat) : countT (countT t (l.take k)) (l.drop k) = countT t l := by
  unfold countT
  rw [← List.foldl_append, List.take_append_drop]

end Go.Proofs.Ytilpcoebpinmfaa
