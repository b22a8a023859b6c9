/-
  The walk of breakwaterlaw10.CommandOther, for any arguments.
-/
import Derived.Test.YtnoojlgefpekiaaCmdS
namespace Go.Proofs.Ytnoojlgefpekiaa
open Go.RowKit

theorem may_dead (c : Cm) (n : Int) (hn : n ≠ 0) (hk : c.kind = 0 ∨ c.kind = 1 ∨ c.kind = 2 ∨ c.kind = 3) : mayC ⟨c.kind, c.node, c.serial, n, c.was, c.lo, c.hi, c.mode⟩ = false := by
  cases hm : mayC ⟨c.kind, c.node, c.serial, n, c.was, c.lo, c.hi, c.mode⟩ with
  | false => rfl
  | true =>
    exfalso
    obtain ⟨_, _, h⟩ := may_has _ hm
    rcases h with ⟨_, h⟩ | ⟨_, h⟩ | ⟨_, h⟩ | ⟨h, _⟩ | ⟨h, _⟩
    · exact hn ((only_iff _ _ _ _ _).1 h).2.2.1
    · exact hn ((only_iff _ _ _ _ _).1 h).2.2.1
    · exact hn ((only_iff _ _ _ _ _).1 h).2.2.1
    · have : c.kind = 4 := h
      omega
    · have : c.kind = 5 := h
      omega

theorem may_hi (c : Cm) (n : Int) (hn : n ≠ 0) (hk : c.kind = 4 ∨ c.kind = 5) : mayC ⟨c.kind, c.node, c.serial, c.dead, c.was, c.lo, n, c.mode⟩ = false := by
  cases hm : mayC ⟨c.kind, c.node, c.serial, c.dead, c.was, c.lo, n, c.mode⟩ with
  | false => rfl
  | true =>
    exfalso
    obtain ⟨_, _, h⟩ := may_has _ hm
    rcases h with ⟨h, _⟩ | ⟨h, _⟩ | ⟨h, _⟩ | ⟨_, h⟩ | ⟨_, h⟩
    · have : c.kind = 0 ∨ c.kind = 1 := h
      omega
    · have : c.kind = 2 := h
      omega
    · have : c.kind = 3 := h
      omega
    · exact hn ((only_iff _ _ _ _ _).1 h).1.2
    · exact hn ((only_iff _ _ _ _ _).1 h).1.2

theorem may_six (c : Cm) : mayC ⟨6, c.node, c.serial, c.dead, c.was, c.lo, c.hi, c.mode⟩ = false := by
  cases hm : mayC ⟨6, c.node, c.serial, c.dead, c.was, c.lo, c.hi, c.mode⟩ with
  | false => rfl
  | true =>
    exfalso
    obtain ⟨_, _, h⟩ := may_has _ hm
    have k : (6 : Int) = 0 ∨ (6 : Int) = 1 ∨ (6 : Int) = 2 ∨ (6 : Int) = 3 ∨ (6 : Int) = 4 ∨ (6 : Int) = 5 := by
      rcases h with ⟨h, _⟩ | ⟨h, _⟩ | ⟨h, _⟩ | ⟨h, _⟩ | ⟨h, _⟩
      · have : (6 : Int) = 0 ∨ (6 : Int) = 1 := h
        omega
      · exact .inr (.inr (.inl h))
      · exact .inr (.inr (.inr (.inl h)))
      · exact .inr (.inr (.inr (.inr (.inl h))))
      · exact .inr (.inr (.inr (.inr (.inr h))))
    omega

/-- CommandOther -/
theorem co_any (c d : Cm) (n : Int) (w : World) (hc : Wf c) (hd : Wf d) :
    Calls Try.prog 10 #[.agg (cC c), .agg (cC d), .int .i64 n] w fun e w' => e = .returned (.bool true) ∧ Below w.heap.size w w' := by
  cases hm : mayC c with
  | false =>
    have h1 : bytesE c = 2 := by unfold bytesE; rw [hm]; rfl
    exact co_A c d n w hc hd h1
  | true =>
    have h1 : bytesE c = 0 := by unfold bytesE; rw [hm]; rfl
    have kinds : c.kind = 0 ∨ c.kind = 1 ∨ c.kind = 2 ∨ c.kind = 3 ∨ c.kind = 4 ∨ c.kind = 5 := by
      obtain ⟨_, _, h⟩ := may_has _ hm
      omega
    by_cases hn : n = 0
    · have n0 : (n == 0) = true := by simp [hn]
      cases hm2 : mayC d with
      | false =>
        have h2 : bytesE d = 2 := by unfold bytesE; rw [hm2]; rfl
        exact co_Bz c d n w hc hd h1 h2 n0
      | true =>
        have h2 : bytesE d = 0 := by unfold bytesE; rw [hm2]; rfl
        cases he : eqC c d with
        | true =>
          obtain rfl := (eqC_iff c d).1 he
          exact co_Ez c n w hc hd h1 h2 n0
        | false =>
          have hst : bytesS c ≠ bytesS d := by
            unfold bytesS
            rw [if_pos hm, if_pos hm2]
            intro h
            have := bytes_inj c d hm hm2 (str_inj h)
            rw [this, eqC_self] at he
            cases he
          exact co_Nz c d n w hc hd h1 h2 he hst n0
    · have n0 : (n == 0) = false := by simp [hn]
      have h6 := may_six c
      have f : ∀ q : Int, c.kind ≠ q → (c.kind == q) = false := fun q h => by simp [h]
      have t : ∀ q : Int, c.kind = q → (c.kind == q) = true := fun q h => by simp [h]
      cases hm2 : mayC d with
      | false =>
        have h2 : bytesE d = 2 := by unfold bytesE; rw [hm2]; rfl
        by_cases k2 : c.kind = 2
        · exact co_B2 c d n w hc hd h1 h2 n0 (t _ k2) (may_dead c n hn (by omega)) h6
        · by_cases k3 : c.kind = 3
          · exact co_B3 c d n w hc hd h1 h2 n0 (f _ k2) (t _ k3) (may_dead c n hn (by omega)) h6
          · by_cases k0 : c.kind = 0
            · exact co_B0 c d n w hc hd h1 h2 n0 (f _ k2) (f _ k3) (t _ k0) (may_dead c n hn (by omega)) h6
            · by_cases k1 : c.kind = 1
              · exact co_B1 c d n w hc hd h1 h2 n0 (f _ k2) (f _ k3) (f _ k0) (t _ k1) (may_dead c n hn (by omega)) h6
              · exact co_B45 c d n w hc hd h1 h2 n0 (f _ k2) (f _ k3) (f _ k0) (f _ k1) (may_hi c n hn (by omega)) h6
      | true =>
        have h2 : bytesE d = 0 := by unfold bytesE; rw [hm2]; rfl
        cases he : eqC c d with
        | true =>
          obtain rfl := (eqC_iff c d).1 he
          by_cases k2 : c.kind = 2
          · exact co_E2 c n w hc hd h1 h2 n0 (t _ k2) (may_dead c n hn (by omega)) h6
          · by_cases k3 : c.kind = 3
            · exact co_E3 c n w hc hd h1 h2 n0 (f _ k2) (t _ k3) (may_dead c n hn (by omega)) h6
            · by_cases k0 : c.kind = 0
              · exact co_E0 c n w hc hd h1 h2 n0 (f _ k2) (f _ k3) (t _ k0) (may_dead c n hn (by omega)) h6
              · by_cases k1 : c.kind = 1
                · exact co_E1 c n w hc hd h1 h2 n0 (f _ k2) (f _ k3) (f _ k0) (t _ k1) (may_dead c n hn (by omega)) h6
                · exact co_E45 c n w hc hd h1 h2 n0 (f _ k2) (f _ k3) (f _ k0) (f _ k1) (may_hi c n hn (by omega)) h6
        | false =>
          have hst : bytesS c ≠ bytesS d := by
            unfold bytesS
            rw [if_pos hm, if_pos hm2]
            intro h
            have := bytes_inj c d hm hm2 (str_inj h)
            rw [this, eqC_self] at he
            cases he
          by_cases k2 : c.kind = 2
          · exact co_N2 c d n w hc hd h1 h2 he hst n0 (t _ k2) (may_dead c n hn (by omega)) h6
          · by_cases k3 : c.kind = 3
            · exact co_N3 c d n w hc hd h1 h2 he hst n0 (f _ k2) (t _ k3) (may_dead c n hn (by omega)) h6
            · by_cases k0 : c.kind = 0
              · exact co_N0 c d n w hc hd h1 h2 he hst n0 (f _ k2) (f _ k3) (t _ k0) (may_dead c n hn (by omega)) h6
              · by_cases k1 : c.kind = 1
                · exact co_N1 c d n w hc hd h1 h2 he hst n0 (f _ k2) (f _ k3) (f _ k0) (t _ k1) (may_dead c n hn (by omega)) h6
                · exact co_N45 c d n w hc hd h1 h2 he hst n0 (f _ k2) (f _ k3) (f _ k0) (f _ k1) (may_hi c n hn (by omega)) h6

end Go.Proofs.Ytnoojlgefpekiaa
