/-
  The walk of breakwaterlaw13.ChooseOrder. (The regions' lines are printed by choose_order.py.)
-/
import Derived.Test.YtilpcoebpinmfaaAppR
import Derived.Test.YtilpcoebpinmfaaRegT
import Derived.Test.YtilpcoebpinmfaaOrder
import Derived.Test.YtilpcoebpinmfaaMax
import Derived.Deep.QuietTactic
import Derived.BigQuiet
namespace Go.Proofs.Ytilpcoebpinmfaa
open Go.RowKit

/-- append, at the end of a region -/
theorem tail_append {a : Act} {W : World} {K : Act → World → Prop} {Q : Exit → Act → World → Prop} {dst : Nat} {s x : Nat} {ty : TypeId} {pos : String} {af : Array Edge} {base : Nat} {v : Value} {l m : List Rc} {A : Option Addr} {k c B : Nat}
    (h1 : a.eval (.tmp s) = v) (h2 : a.eval (.tmp x) = .slice A k c) (hown : OwnR W base v l) (hr : RdR W B A k m) (hs : Sl A k c) (hn : l.length + k ≤ 1000) (hbase : base ≤ W.heap.size)
    (h : ∀ v' w', OwnR w' base v' (l ++ m) → W.grownBy w' v.ownBlock → K (a.put (some dst) v') w') :
    Oper.wp Try.prog ⟨some dst, .call { callee := .builtin .append, args := #[.tmp s, .tmp x], argTypes := #[24, 24] }, ty, pos, af, none⟩ a W K Q := by
  obtain ⟨v', w', hrun, h3, h4⟩ := run_appR (c := c) ty hown hr hs hn hbase
  unfold Oper.wp execOp
  simp only [resolve, invoke, builtin, Sem.run_bind, Sem.run_pure, Result.andThen_ok, List.map_toArray, List.map_cons, List.map_nil, h1, h2, hrun]
  exact h v' w' h3 h4

theorem tail_assign {P : Program} {a : Act} {W : World} {K : Act → World → Prop} {Q : Exit → Act → World → Prop} {dst x : Nat} {ty : TypeId} {pos : String} {af : Array Edge} (h : K (a.put (some dst) (a.eval (.tmp x))) W) :
    Oper.wp P ⟨some dst, .assign (.tmp x), ty, pos, af, none⟩ a W K Q := by
  unfold Oper.wp execOp
  simp
  exact h

/-- the block that a slice leads to -/
def sOf : Value → Nat
  | .slice (some a) _ _ => a.block
  | _ => 0
theorem st_slice2 (t : TypeId) (cs : Array Value) : Stable (fun q_ _ W => q_ = .slice (some ⟨sOf q_, 0, none⟩) 1 1 ∧ Blk W (sOf q_) t cs) := by
  rintro x y W W' hb ⟨hx, hr⟩
  exact ⟨hx, hr.below hb hr.lt⟩

theorem st_slice3 (B : Nat) (t : TypeId) (cs : Array Value) : Stable (fun q_ _ W => q_ = .slice (some ⟨sOf q_, 0, none⟩) 1 1 ∧ B ≤ sOf q_ ∧ Blk W (sOf q_) t cs) := by
  rintro x y W W' hb ⟨hx, hB, hr⟩
  exact ⟨hx, hB, hr.below hb hr.lt⟩
theorem OwnR.of_blk {w : World} {base g : Nat} {r : Rc} (h : Blk w g 23 (rc r)) (hb : base ≤ g) : OwnR w base (.slice (some ⟨g, 0, none⟩) 1 1) [r] :=
  ⟨rfl, .inr ⟨g, 1, rc r, rfl, hb, h, Nat.le_refl _, by unfold maxLen; omega, rfl, rfl⟩⟩

theorem OwnR.far {w : World} {base : Nat} {v : Value} {l : List Rc} (h : OwnR w base v l) : ∀ g, v.ownBlock = some g → base ≤ g ∧ g < w.heap.size := by
  intro g hg
  rcases h.2 with ⟨rfl, _⟩ | ⟨g', cap, cur, rfl, hb, hh, _⟩
  · cases hg
  · injection hg with hg
    subst hg
    exact ⟨hb, (Array.getElem?_eq_some_iff.1 hh).1⟩

theorem two_ofO {i : Nat} (h : (i == 6 || i == 7) = true) : i = 6 ∨ i = 7 := by simpa using h
/-- the pairs that were looked at: all of p and q below p for p below k; of k those below j -/
def pairC (o : Int) (L : List Rc) (p q : Nat) : Prop := ∀ r s, L[p]? = some r → L[q]? = some s → r.inst = o → s.inst = o → r.bal = s.bal → s.val = r.val
def pairs (o : Int) (L : List Rc) (k j : Nat) : Prop := (∀ p q, p < k → q < p → pairC o L p q) ∧ ∀ q, q < j → pairC o L k q
theorem pair_step {o : Int} {L : List Rc} {k q : Nat} (h : pairs o L k q) (hs : ∀ r s, L[k]? = some r → L[q]? = some s → r.inst = o → s.inst = o → r.bal = s.bal → s.val = r.val) : pairs o L k (q + 1) :=
  ⟨h.1, fun j hj => by
    rcases Nat.lt_or_ge j q with h1 | h1
    · exact h.2 j h1
    · obtain rfl : j = q := by omega
      exact hs⟩
theorem pairs_next {o : Int} {L : List Rc} {k : Nat} (h : pairs o L k k) : pairs o L (k + 1) 0 :=
  ⟨fun p q hp hq => by
    rcases Nat.lt_or_ge p k with h1 | h1
    · exact h.1 p q h1 hq
    · obtain rfl : p = k := by omega
      exact h.2 q hq, fun q hq => by omega⟩
theorem pairs_alike {o : Int} {L : List Rc} {k : Nat} (h : pairs o L k 0) (hk : L.length ≤ k) : alike o L := by
  intro r hr s hs h1 h2 h3
  obtain ⟨p, hp⟩ := List.getElem?_of_mem hr
  obtain ⟨q, hq⟩ := List.getElem?_of_mem hs
  have lp := (List.getElem?_eq_some_iff.1 hp).1
  have lq := (List.getElem?_eq_some_iff.1 hq).1
  rcases Nat.lt_trichotomy p q with g | g | g
  · exact h.1 q p (by omega) g s r hq hp h2 h1 h3.symm
  · subst g
    rw [hp] at hq; cases hq; rfl
  · exact (h.1 p q (by omega) g r s hp hq h1 h2 h3).symm

theorem ty_ext {a b : Ty} (h1 : a.inst = b.inst) (h2 : a.mbal = b.mbal) (h3 : a.best = b.best) (h4 : a.seen = b.seen) (h5 : a.ahead = b.ahead) (h6 : a.lost = b.lost) : a = { b with val := a.val } := by
  cases a; cases b
  simp at h1 h2 h3 h4 h5 h6
  simp [h1, h2, h3, h4, h5, h6]

theorem rev_step {l : List Rc} {k d n : Nat} {r : Rc} (hl : l.length = n) (hd : d + (k + 1) = n) (hr : l[d]? = some r) : (l.drop (d + 1)).reverse ++ [r] = (l.drop d).reverse := by
  have hdl : d < l.length := by omega
  rw [List.drop_eq_getElem_cons hdl, List.reverse_cons]
  have := List.getElem?_eq_getElem hdl
  rw [hr] at this
  injection this with this
  rw [this]

set_option maxRecDepth 100000 in
set_option maxHeartbeats 4000000 in
theorem order_main (own : Rc) (A : Option Addr) (n c : Nat) (l : List Rc) (w : World) (hl : RdR w w.heap.size A n l) (hn : n ≤ 60) (hs : Sl A n c) (hg : grB l = false) (ho : grB [own] = false) :
    Calls Try.prog 4 #[.agg (rc own), .slice A n c] w fun e w' => e = .returned (.bool true) ∧ Below w.heap.size w w' := by
  change Calls Try.prog 4 #[.agg #[.int .i64 own.inst, .int .i64 own.mbal, .int .i64 own.bal, .string own.val], .slice A n c] w _
  have kb0 : Blk (w.alloc (Obj.cells #[Value.int IntKind.i64 own.inst, Value.int IntKind.i64 own.mbal, Value.int IntKind.i64 own.bal, Value.string own.val] 23)) w.heap.size 23 (rc own) := Blk.new w 23 _
  have C1 := Lib.hid (great_c A n c w.heap.size l (w.alloc (Obj.cells #[Value.int IntKind.i64 own.inst, Value.int IntKind.i64 own.mbal, Value.int IntKind.i64 own.bal, Value.string own.val] 23)) (hl.below ((Below.refl _ _).alloc (Nat.le_refl _) _)) (by omega) hg)
  have k1 := Blk.new (w.alloc (Obj.cells #[Value.int IntKind.i64 own.inst, Value.int IntKind.i64 own.mbal, Value.int IntKind.i64 own.bal, Value.string own.val] 23)) 23 (rc own)
  have C2 : Hid (Calls Try.prog 8 #[.slice (some ⟨w.heap.size + 1, 0, none⟩) 1 1] ((w.alloc (Obj.cells #[Value.int IntKind.i64 own.inst, Value.int IntKind.i64 own.mbal, Value.int IntKind.i64 own.bal, Value.string own.val] 23)).alloc (Obj.cells #[Value.int IntKind.i64 own.inst, Value.int IntKind.i64 own.mbal, Value.int IntKind.i64 own.bal, Value.string own.val] 23)) _) := Lib.hid (great_one (w.heap.size + 1) own _ (by simpa [rc] using k1) ho)
  have KO0 : Hid (Blk ((w.alloc (Obj.cells #[Value.int IntKind.i64 own.inst, Value.int IntKind.i64 own.mbal, Value.int IntKind.i64 own.bal, Value.string own.val] 23)).alloc (Obj.cells #[Value.int IntKind.i64 own.inst, Value.int IntKind.i64 own.mbal, Value.int IntKind.i64 own.bal, Value.string own.val] 23)) w.heap.size 23 (rc own)) := Lib.hid (kb0.alloc _)
  have KW0 : Hid (Below w.heap.size w ((w.alloc (Obj.cells #[Value.int IntKind.i64 own.inst, Value.int IntKind.i64 own.mbal, Value.int IntKind.i64 own.bal, Value.string own.val] 23)).alloc (Obj.cells #[Value.int IntKind.i64 own.inst, Value.int IntKind.i64 own.mbal, Value.int IntKind.i64 own.bal, Value.string own.val] 23))) := Lib.hid (((Below.refl _ _).alloc (Nat.le_refl _) _).alloc (by simp) _)
  have HL := Lib.hid hl; have HS := Lib.hid hs
  clear hl hg ho kb0 k1 hs
  go_enter Try.func4, Try.ntmps4
  go_wp2_with fail
  refine C1.out.mono ?_
  rintro e w1 ⟨rfl, rfl⟩
  go_wp2_with fail
  refine C2.out.mono ?_
  rintro e w1 ⟨rfl, rfl⟩
  go_upto_region 3 with fail
  obtain ⟨w1, hw1⟩ : ∃ w1, w1 = ((w.alloc (Obj.cells #[Value.int IntKind.i64 own.inst, Value.int IntKind.i64 own.mbal, Value.int IntKind.i64 own.bal, Value.string own.val] 23)).alloc (Obj.cells #[Value.int IntKind.i64 own.inst, Value.int IntKind.i64 own.mbal, Value.int IntKind.i64 own.bal, Value.string own.val] 23)) := ⟨_, rfl⟩
  have KO := KO0; have KW1 := KW0
  rw [← hw1] at KO KW1 ⊢
  clear KO0 KW0 C1 C2 hw1
  refine wp_region_grows 3 ((fun q_ _ _ => q_ = .agg (rc own)) :: (fun q_ _ _ => q_ = .agg (tc (begun own 0))) :: (fun q_ _ W => q_ = ptr (gOf q_) ∧ w1.heap.size ≤ gOf q_ ∧ Blk W (gOf q_) 30 (tc zT)) :: []) ((fun i => i == 2)) (w1.heap.size) w1 (by kernel_rfl) (by kernel_rfl) (by kernel_rfl) (Below.refl _ _) (Nat.le_refl _) ?aStab (fun i hi x W hx => by obtain rfl := eq_of_beq hi; exact ⟨_, hx.1, hx.2.2.lt⟩) ?aOps ?aFin
  case aStab => exact ⟨st_is _, st_is _, st_alloc _ _ _, trivial⟩
  case aOps =>
    intro Q
    refine ⟨?_, ?_, ?_, trivial⟩
    · intro ho a W hW hd hx
      have h2 : a.eval (.tmp 2) = .pointer (some ⟨w.heap.size, 0, none⟩) := (hx 2 (dst_not (by kernel_rfl))).trans rfl
      exact op_value ho (want_none rfl) (v := .agg (rc own)) (by intro ρ hρ kc kf; rw [← hρ] at h2; exact run_load_B h2 (KO.out.below hW KO.out.lt)) ⟨_, rfl, (fun h => by cases h), rfl, Below.refl _ _, (fun h => absurd h (by decide))⟩
    · intro ho a W hW hd hx
      have h24 : a.eval (.tmp 24) = .agg (rc own) := hd 0 (by kernel_rfl)
      refine op_call ho (want_none rfl) (by intro ρ hρ kc kf; rw [← hρ] at h24; clear hρ; simp [execOp, go_sem, kc, kf, h24]) (begin_tc own 0 W) ?_
      rintro e W2 ⟨rfl, k2⟩
      exact ⟨_, rfl, _, rfl, (fun h => by cases h), rfl, k2, (fun h => absurd h (by decide))⟩
    · intro ho a W hW hd hx
      exact op_value ho (want_none rfl) (v := ptr W.heap.size) (w' := W.alloc (.cells (tc zT) 30)) (by intro ρ hρ kc kf; clear hρ; simp [execOp, go_sem, ptr, tc, zT]) ⟨_, rfl, (fun h => by cases h), ⟨rfl, hW.size, Blk.new W 30 _⟩, (Below.refl _ _).alloc (Nat.le_refl _) _, (fun _ => ⟨_, rfl, Nat.le_refl _⟩)⟩
  intro va W hW hv _
  have hx : va 2 = ptr (gOf (va 2)) ∧ w1.heap.size ≤ gOf (va 2) ∧ Blk W (gOf (va 2)) 30 (tc zT) := hv 2 (by decide)
  have hg := hx.1; have hl := hx.2.1; have hb := hx.2.2
  have h4 : va 1 = .agg (tc (begun own 0)) := hv 1 (by decide)
  simp only [List.take_succ_cons, List.take_zero, List.drop_succ_cons, List.drop_zero, fillL, wpTail, Act.put, List.setIfInBounds_toArray, List.set_cons_zero, List.set_cons_succ, Nat.reduceAdd]
  rw [hg, h4]
  refine tail_store_T (t := (begun own 0)) rfl rfl hb rfl ?_
  intro w2 kb hgr
  have kw : Below w1.heap.size w1 w2 := hW.grown hgr hW.size (fun j hj => by injection hj with e; omega)
  have K5 := Lib.hid kb; have KO2 := Lib.hid (KO.out.below kw KO.out.lt); have KW2 := Lib.hid (KW1.out.trans (kw.mono KW1.out.size)); have H5 : Hid (gOf (va 2) < w2.heap.size) := Lib.hid kb.lt; have H5w : Hid (w.heap.size < gOf (va 2)) := Lib.hid (by have := KO.out.lt; omega)
  clear hW hv hx hg hl h4 hb hgr kb kw
  go_wp2_with fail
  go_loopw [6, 7] (fun t6 t7 wr => ∃ k : Nat, k ≤ n ∧ t7 = .int .i64 ((n : Int) - 1 - (k : Int)) ∧ OwnR wr w2.heap.size t6 (l.drop (n - k)).reverse ∧ Blk wr (gOf (va 2)) 30 (tc (begun own 0)) ∧ Blk wr w.heap.size 23 (rc own) ∧ Below w.heap.size w wr ∧ w2.heap.size ≤ wr.heap.size) (fun _ t7 _ => (intOf t7 + 1).toNat)
  case atStart => exact ⟨0, by omega, by simp, by rw [Nat.sub_zero, List.drop_of_length_le (by rw [HL.out.1]; omega)]; exact OwnR.nil, K5.out, KO2.out, KW2.out, Nat.le_refl _⟩
  case round =>
    obtain ⟨k, hk, rfl, hown, hk5, hko, hkw, hsz⟩ := hrel
    by_cases hkn : k < n
    · have hlen := HL.out.1
      obtain ⟨ad, rfl, hab, hcs⟩ := HL.out.2 (by omega)
      obtain ⟨d, hd⟩ : ∃ d : Nat, d + (k + 1) = n := ⟨n - (k + 1), by omega⟩
      obtain ⟨r, hlk⟩ : ∃ r, l[d]? = some r := ⟨_, List.getElem?_eq_getElem (by omega)⟩
      have e7 : (n : Int) - 1 - (k : Int) = (d : Int) := by omega
      rw [e7]
      have hrev := rev_step hlen hd hlk
      rw [show n - k = d + 1 from by omega] at hown
      obtain ⟨AB, cB, hv6, hrd, hsl⟩ := hown.shape
      have hk' : ((l.drop (d + 1)).reverse).length = k := by simp; omega
      rw [hk'] at hv6
      subst hv6
      have ix1 : (0 : Int) ≤ (d : Int) := by omega
      have ix2 : (d : Int) < (n : Int) := by omega
      have kr : ∀ W, Below wr.heap.size wr W → W.cell? (ad.add (d * 4)) = some (.int .i64 r.inst) ∧ W.cell? ((ad.add (d * 4)).add 1) = some (.int .i64 r.mbal) ∧ W.cell? ((ad.add (d * 4)).add 2) = some (.int .i64 r.bal) ∧ W.cell? ((ad.add (d * 4)).add 3) = some (.string r.val) := by
        intro W hW
        obtain ⟨q0, q1, q2, q3⟩ := hcs d _ hlk
        have hs := hkw.size
        have hc : ∀ j, W.cell? (ad.add j) = w.cell? (ad.add j) := fun j => (hW.cell (by rw [blk_add]; omega)).trans (hkw.cell (by rw [blk_add]; omega))
        refine ⟨(hc _).trans q0, ?_, ?_, ?_⟩
        · rw [add_two]; exact (hc _).trans q1
        · rw [add_two]; exact (hc _).trans q2
        · rw [add_two]; exact (hc _).trans q3
      have KR := Lib.hid kr; have KOWN := Lib.hid hown; have K5b := Lib.hid hk5; have KOb := Lib.hid hko; have KW3 := Lib.hid hkw; have HSZ := Lib.hid hsz; have HREV := Lib.hid hrev; have HK := Lib.hid hk'; have HD := Lib.hid hd
      clear kr hown hk5 hko hkw hsz hrev hk' hcs hlk hlen e7 hrd hsl hd
      go_upto_region 8 with fail
      refine wp_region_tails 6 ((fun q_ _ _ => q_ = .slice AB k cB) :: (fun q_ _ _ => q_ = .slice (some ad) n c) :: (fun q_ _ _ => q_ = .int .i64 (d : Int)) :: (fun q_ _ _ => q_ = .pointer (some (ad.add (d * 4)))) :: (fun q_ _ _ => q_ = .agg (rc r)) :: (fun q_ _ W => q_ = .slice (some ⟨sOf q_, 0, none⟩) 1 1 ∧ Blk W (sOf q_) 23 (rc r)) :: []) (fun _ => false) (wr.heap.size) wr (by kernel_rfl) (by kernel_rfl) (by kernel_rfl) (Below.refl _ _) (Nat.le_refl _) ?bStab (fun _ h => by cases h) ?bOps ?bFin
      case bStab => exact ⟨st_is _, st_is _, st_is _, st_is _, st_is _, st_slice2 _ _, trivial⟩
      case bOps =>
        intro Q
        refine ⟨?_, ?_, ?_, ?_, ?_, ?_, trivial⟩
        · intro ho a W hW hd hx
          have h6 : a.eval (.tmp 6) = .slice AB k cB := (hx 6 (dst_notT (by kernel_rfl))).trans rfl
          exact op_value ho (want_none rfl) (v := .slice AB k cB) (by intro ρ hρ kc kf; rw [← hρ] at h6; clear hρ; simp [execOp, go_sem, h6]) ⟨_, rfl, (fun h => by cases h), rfl, Below.refl _ _, (fun h => absurd h (by decide))⟩
        · intro ho a W hW hd hx
          have h1 : a.eval (.tmp 1) = .slice (some ad) n c := (hx 1 (dst_notT (by kernel_rfl))).trans rfl
          exact op_value ho (want_none rfl) (v := .slice (some ad) n c) (by intro ρ hρ kc kf; rw [← hρ] at h1; clear hρ; simp [execOp, go_sem, h1]) ⟨_, rfl, (fun h => by cases h), rfl, Below.refl _ _, (fun h => absurd h (by decide))⟩
        · intro ho a W hW hd hx
          have h7 : a.eval (.tmp 7) = .int .i64 (d : Int) := (hx 7 (dst_notT (by kernel_rfl))).trans rfl
          exact op_value ho (want_none rfl) (v := .int .i64 (d : Int)) (by intro ρ hρ kc kf; rw [← hρ] at h7; clear hρ; simp [execOp, go_sem, h7]) ⟨_, rfl, (fun h => by cases h), rfl, Below.refl _ _, (fun h => absurd h (by decide))⟩
        · intro ho a W hW hd hx
          have h34 : a.eval (.tmp 34) = .slice (some ad) n c := hd 1 (by kernel_rfl)
          have h35 : a.eval (.tmp 35) = .int .i64 (d : Int) := hd 2 (by kernel_rfl)
          exact op_value ho (want_none rfl) (v := .pointer (some (ad.add (d * 4)))) (by intro ρ hρ kc kf; rw [← hρ] at h34 h35; clear hρ; simp [execOp, go_sem, h34, h35, ix1, ix2]) ⟨_, rfl, (fun h => by cases h), rfl, Below.refl _ _, (fun h => absurd h (by decide))⟩
        · intro ho a W hW hd hx
          have h36 : a.eval (.tmp 36) = .pointer (some (ad.add (d * 4))) := hd 3 (by kernel_rfl)
          obtain ⟨q0, q1, q2, q3⟩ := KR.out W hW
          exact op_value ho (want_none rfl) (v := .agg (rc r)) (by intro ρ hρ kc kf; rw [← hρ] at h36; exact run_load_R h36 q0 q1 q2 q3) ⟨_, rfl, (fun h => by cases h), rfl, Below.refl _ _, (fun h => absurd h (by decide))⟩
        · intro ho a W hW hd hx
          have h37 : a.eval (.tmp 37) = .agg (rc r) := hd 4 (by kernel_rfl)
          exact op_value ho (want_none rfl) (v := .slice (some ⟨W.heap.size, 0, none⟩) 1 1) (w' := W.alloc (.cells (rc r) 23)) (by intro ρ hρ kc kf; rw [← hρ] at h37; clear hρ; simp [execOp, go_sem, h37, rc]) ⟨_, rfl, (fun h => by cases h), ⟨rfl, Blk.new W 23 _⟩, (Below.refl _ _).alloc (Nat.le_refl _) _, (fun h => absurd h (by decide))⟩
      intro vb W hW hv _
      have h0 : vb 0 = .slice AB k cB := hv 0 (by decide)
      have h5 : vb 5 = .slice (some ⟨sOf (vb 5), 0, none⟩) 1 1 ∧ Blk W (sOf (vb 5)) 23 (rc r) := hv 5 (by decide)
      have h5a := h5.1
      simp only [List.take_succ_cons, List.take_zero, List.drop_succ_cons, List.drop_zero, fillL, wpTail, Act.put, List.setIfInBounds_toArray, List.set_cons_zero, List.set_cons_succ, Nat.reduceAdd]
      rw [h0, h5a]
      refine tail_append (v := .slice AB k cB) (l := (l.drop (d + 1)).reverse) (m := [r]) (base := w2.heap.size) rfl rfl (KOWN.out.below hW) (RdR.one h5.2) (.inr ⟨_, rfl, Nat.le_refl _, by decide⟩) (by rw [HK.out]; omega) (by have := HSZ.out; have := hW.size; omega) ?_
      intro v6 w5 hown5 hgr5
      refine tail_assign ?_
      rw [HREV.out] at hown5
      have hfar := (KOWN.out.below hW).far
      have k5 := K5b.out.below hW K5b.out.lt
      have ko := KOb.out.below hW KOb.out.lt
      have l5 := H5.out
      have l2 := KO2.out.lt
      have KOWN5 := Lib.hid hown5
      have K55 : Hid (Blk w5 (gOf (va 2)) 30 (tc (begun own 0))) := Lib.hid ((hgr5.block _ k5.lt (fun e => by have := (hfar _ e.symm).1; omega)).trans k5)
      have KO5 : Hid (Blk w5 w.heap.size 23 (rc own)) := Lib.hid ((hgr5.block _ ko.lt (fun e => by have := (hfar _ e.symm).1; omega)).trans ko)
      have KW5 : Hid (Below w.heap.size w w5) := Lib.hid ((KW3.out.trans (hW.mono KW3.out.size)).grown hgr5 (Nat.le_trans KW3.out.size hW.size) (fun j hj => by have := (hfar _ hj).1; omega))
      have HSZ5 : Hid (w2.heap.size ≤ w5.heap.size) := Lib.hid (Nat.le_trans HSZ.out (Nat.le_trans hW.size hgr5.size))
      clear hW hv h0 h5 h5a hown5 hgr5 hfar k5 ko l5 l2
      go_wp2
      go_roundw
      case rel => exact ⟨k + 1, by omega, by have := HD.out; go_num, by rw [show n - (k + 1) = d from by have := HD.out; omega]; exact KOWN5.out, K55.out, KO5.out, KW5.out, HSZ5.out⟩
      case measure => simp [intOf]
    · have hkn2 : n = k := by omega
      subst hkn2
      have e7 : (n : Int) - 1 - (n : Int) = -1 := by omega
      rw [e7]
      rw [Nat.sub_self, List.drop_zero] at hown
      obtain ⟨AB, cB, hv6, hrd, hsl⟩ := hown.shape
      rw [show l.reverse.length = n from by rw [List.length_reverse]; exact HL.out.1] at hv6 hrd
      subst hv6
      obtain ⟨T, hT⟩ : ∃ T, T = countT (begun own 0) l := ⟨_, rfl⟩
      obtain ⟨TR, hTR⟩ : ∃ TR, TR = countT (begun own 0) l.reverse := ⟨_, rfl⟩
      have cA := fun W (h : Below w.heap.size w W) => count_any (begun own 0) A n c w.heap.size l W (HL.out.below h) h.size (by omega)
      have cB_ := fun W (h : Below wr.heap.size wr W) => count_any (begun own 0) AB n cB wr.heap.size l.reverse W (hrd.below h) h.size (by omega)
      rw [← hT] at cA
      rw [← hTR] at cB_
      have CA := Lib.hid cA; have CB := Lib.hid cB_; have HT := Lib.hid hT; have HTR := Lib.hid hTR
      have K5b := Lib.hid hk5; have KOb := Lib.hid hko; have KW3 := Lib.hid hkw
      clear cA cB_ hT hTR hown hrd hsl hk5 hko hkw hsz e7
      go_upto_region 9 with fail
      refine wp_region_grows 8 ((fun q_ _ _ => q_ = .agg (tc (begun own 0))) :: (fun q_ _ _ => q_ = .slice A n c) :: (fun q_ _ _ => q_ = .agg (tc T)) :: (fun q_ _ _ => q_ = .agg (tc (begun own 0))) :: (fun q_ _ _ => q_ = .slice AB n cB) :: (fun q_ _ _ => q_ = .agg (tc TR)) :: (fun q_ _ W => q_ = ptr (gOf q_) ∧ wr.heap.size ≤ gOf q_ ∧ Blk W (gOf q_) 30 (tc zT)) :: (fun q_ _ W => q_ = ptr (gOf q_) ∧ wr.heap.size ≤ gOf q_ ∧ Blk W (gOf q_) 30 (tc zT)) :: []) ((fun i => i == 6 || i == 7)) (wr.heap.size) wr (by kernel_rfl) (by kernel_rfl) (by kernel_rfl) (Below.refl _ _) (Nat.le_refl _) ?cStab (fun i hi x W hx => by rcases two_ofO hi with rfl | rfl <;> exact ⟨_, hx.1, hx.2.2.lt⟩) ?cOps ?cFin
      case cStab => exact ⟨st_is _, st_is _, st_is _, st_is _, st_is _, st_is _, st_alloc _ _ _, st_alloc _ _ _, trivial⟩
      case cOps =>
        intro Q
        refine ⟨?_, ?_, ?_, ?_, ?_, ?_, ?_, ?_, trivial⟩
        · intro ho a W hW hd hx
          have h5 : a.eval (.tmp 5) = .pointer (some ⟨(gOf (va 2)), 0, none⟩) := (hx 5 (dst_not (by kernel_rfl))).trans rfl
          exact op_value ho (want_none rfl) (v := .agg (tc (begun own 0))) (by intro ρ hρ kc kf; rw [← hρ] at h5; exact run_load_T h5 (K5b.out.below hW K5b.out.lt)) ⟨_, rfl, (fun h => by cases h), rfl, Below.refl _ _, (fun h => absurd h (by decide))⟩
        · intro ho a W hW hd hx
          have h1 : a.eval (.tmp 1) = .slice A n c := (hx 1 (dst_not (by kernel_rfl))).trans rfl
          exact op_value ho (want_none rfl) (v := .slice A n c) (by intro ρ hρ kc kf; rw [← hρ] at h1; clear hρ; simp [execOp, go_sem, h1]) ⟨_, rfl, (fun h => by cases h), rfl, Below.refl _ _, (fun h => absurd h (by decide))⟩
        · intro ho a W hW hd hx
          have h40 : a.eval (.tmp 40) = .agg (tc (begun own 0)) := hd 0 (by kernel_rfl)
          have h41 : a.eval (.tmp 41) = .slice A n c := hd 1 (by kernel_rfl)
          refine op_call ho (want_none rfl) (by intro ρ hρ kc kf; rw [← hρ] at h40 h41; clear hρ; simp [execOp, go_sem, kf, h40, h41]) (CA.out W (KW3.out.trans (hW.mono KW3.out.size))) ?_
          rintro e W2 ⟨rfl, k2⟩
          exact ⟨_, rfl, _, rfl, (fun h => by cases h), rfl, k2, (fun h => absurd h (by decide))⟩
        · intro ho a W hW hd hx
          have h5 : a.eval (.tmp 5) = .pointer (some ⟨(gOf (va 2)), 0, none⟩) := (hx 5 (dst_not (by kernel_rfl))).trans rfl
          exact op_value ho (want_none rfl) (v := .agg (tc (begun own 0))) (by intro ρ hρ kc kf; rw [← hρ] at h5; exact run_load_T h5 (K5b.out.below hW K5b.out.lt)) ⟨_, rfl, (fun h => by cases h), rfl, Below.refl _ _, (fun h => absurd h (by decide))⟩
        · intro ho a W hW hd hx
          have h6 : a.eval (.tmp 6) = .slice AB n cB := (hx 6 (dst_not (by kernel_rfl))).trans rfl
          exact op_value ho (want_none rfl) (v := .slice AB n cB) (by intro ρ hρ kc kf; rw [← hρ] at h6; clear hρ; simp [execOp, go_sem, h6]) ⟨_, rfl, (fun h => by cases h), rfl, Below.refl _ _, (fun h => absurd h (by decide))⟩
        · intro ho a W hW hd hx
          have h43 : a.eval (.tmp 43) = .agg (tc (begun own 0)) := hd 3 (by kernel_rfl)
          have h44 : a.eval (.tmp 44) = .slice AB n cB := hd 4 (by kernel_rfl)
          refine op_call ho (want_none rfl) (by intro ρ hρ kc kf; rw [← hρ] at h43 h44; clear hρ; simp [execOp, go_sem, kf, h43, h44]) (CB.out W hW) ?_
          rintro e W2 ⟨rfl, k2⟩
          exact ⟨_, rfl, _, rfl, (fun h => by cases h), rfl, k2, (fun h => absurd h (by decide))⟩
        · intro ho a W hW hd hx
          exact op_value ho (want_none rfl) (v := ptr W.heap.size) (w' := W.alloc (.cells (tc zT) 30)) (by intro ρ hρ kc kf; clear hρ; simp [execOp, go_sem, ptr, tc, zT]) ⟨_, rfl, (fun h => by cases h), ⟨rfl, hW.size, Blk.new W 30 _⟩, (Below.refl _ _).alloc (Nat.le_refl _) _, (fun _ => ⟨_, rfl, Nat.le_refl _⟩)⟩
        · intro ho a W hW hd hx
          exact op_value ho (want_none rfl) (v := ptr W.heap.size) (w' := W.alloc (.cells (tc zT) 30)) (by intro ρ hρ kc kf; clear hρ; simp [execOp, go_sem, ptr, tc, zT]) ⟨_, rfl, (fun h => by cases h), ⟨rfl, hW.size, Blk.new W 30 _⟩, (Below.refl _ _).alloc (Nat.le_refl _) _, (fun _ => ⟨_, rfl, Nat.le_refl _⟩)⟩
      intro vc W hW hv hne
      have hx : vc 6 = ptr (gOf (vc 6)) ∧ wr.heap.size ≤ gOf (vc 6) ∧ Blk W (gOf (vc 6)) 30 (tc zT) := hv 6 (by decide)
      have hy : vc 7 = ptr (gOf (vc 7)) ∧ wr.heap.size ≤ gOf (vc 7) ∧ Blk W (gOf (vc 7)) 30 (tc zT) := hv 7 (by decide)
      have hg := hx.1; have hl := hx.2.1; have hb := hx.2.2
      have hg2 := hy.1; have hl2 := hy.2.1; have hb2 := hy.2.2
      have h2 : vc 2 = .agg (tc T) := hv 2 (by decide)
      have h5 : vc 5 = .agg (tc TR) := hv 5 (by decide)
      have hd : gOf (vc 6) ≠ gOf (vc 7) := fun e => hne 6 7 (by decide) (by decide) (by decide) rfl rfl (by rw [hg, hg2, e])
      simp only [List.take_succ_cons, List.take_zero, List.drop_succ_cons, List.drop_zero, fillL, wpTail, Act.put, List.setIfInBounds_toArray, List.set_cons_zero, List.set_cons_succ, Nat.reduceAdd]
      rw [hg, hg2, h2, h5]
      refine tail_store_T (t := T) rfl rfl hb rfl ?_
      intro wa kb hgr
      have hb3 := hb2.other hgr (Ne.symm hd)
      have kw : Below wr.heap.size wr wa := hW.grown hgr hW.size (fun j hj => by injection hj with e; omega)
      refine tail_store_T (t := TR) rfl rfl hb3 rfl ?_
      intro w3 kb2 hgr2
      have kb1 := kb.other hgr2 hd
      have kw2 : Below wr.heap.size wr w3 := kw.grown hgr2 kw.size (fun j hj => by injection hj with e; omega)
      have K8 := Lib.hid kb1; have K9 := Lib.hid kb2; have KW4 := Lib.hid (KW3.out.trans (kw2.mono KW3.out.size)); have K5c := Lib.hid (K5b.out.below kw2 K5b.out.lt); have KOc := Lib.hid (KOb.out.below kw2 KOb.out.lt)
      have H8 : Hid (gOf (va 2) < gOf (vc 6)) := Lib.hid (by have := K5b.out.lt; omega); have H9 : Hid (gOf (va 2) < gOf (vc 7)) := Lib.hid (by have := K5b.out.lt; omega)
      clear hW hv hne hx hy hg hl hb hg2 hl2 hb2 h2 h5 hd hgr hgr2 hb3 kb kb1 kb2 kw kw2
      go_upto_region 10 with fail
      refine wp_region_grows 2 ((fun q_ _ _ => q_ = .agg (tc T)) :: (fun q_ _ W => q_ = ptr (gOf q_) ∧ w3.heap.size ≤ gOf q_ ∧ Blk W (gOf q_) 30 (tc zT)) :: []) ((fun i => i == 1)) (w3.heap.size) w3 (by kernel_rfl) (by kernel_rfl) (by kernel_rfl) (Below.refl _ _) (Nat.le_refl _) ?dStab (fun i hi x W hx => by obtain rfl := eq_of_beq hi; exact ⟨_, hx.1, hx.2.2.lt⟩) ?dOps ?dFin
      case dStab => exact ⟨st_is _, st_alloc _ _ _, trivial⟩
      case dOps =>
        intro Q
        refine ⟨?_, ?_, trivial⟩
        · intro ho a W hW hd hx
          have h8 : a.eval (.tmp 8) = .pointer (some ⟨(gOf (vc 6)), 0, none⟩) := (hx 8 (dst_not (by kernel_rfl))).trans rfl
          exact op_value ho (want_none rfl) (v := .agg (tc T)) (by intro ρ hρ kc kf; rw [← hρ] at h8; exact run_load_T h8 (K8.out.below hW K8.out.lt)) ⟨_, rfl, (fun h => by cases h), rfl, Below.refl _ _, (fun h => absurd h (by decide))⟩
        · intro ho a W hW hd hx
          exact op_value ho (want_none rfl) (v := ptr W.heap.size) (w' := W.alloc (.cells (tc zT) 30)) (by intro ρ hρ kc kf; clear hρ; simp [execOp, go_sem, ptr, tc, zT]) ⟨_, rfl, (fun h => by cases h), ⟨rfl, hW.size, Blk.new W 30 _⟩, (Below.refl _ _).alloc (Nat.le_refl _) _, (fun _ => ⟨_, rfl, Nat.le_refl _⟩)⟩
      intro vd W hW hv _
      have hx : vd 1 = ptr (gOf (vd 1)) ∧ w3.heap.size ≤ gOf (vd 1) ∧ Blk W (gOf (vd 1)) 30 (tc zT) := hv 1 (by decide)
      have hg := hx.1; have hl := hx.2.1; have hb := hx.2.2
      have h4 : vd 0 = .agg (tc T) := hv 0 (by decide)
      simp only [List.take_succ_cons, List.take_zero, List.drop_succ_cons, List.drop_zero, fillL, wpTail, Act.put, List.setIfInBounds_toArray, List.set_cons_zero, List.set_cons_succ, Nat.reduceAdd]
      rw [hg, h4]
      refine tail_store_T (t := T) rfl rfl hb rfl ?_
      intro w4 kb hgr
      have kw : Below w3.heap.size w3 w4 := hW.grown hgr hW.size (fun j hj => by injection hj with e; omega)
      have K10 := Lib.hid kb; have K8d := Lib.hid (K8.out.below kw K8.out.lt); have K9d := Lib.hid (K9.out.below kw K9.out.lt); have K5d := Lib.hid (K5c.out.below kw K5c.out.lt); have KOd := Lib.hid (KOc.out.below kw KOc.out.lt); have KW5 := Lib.hid (KW4.out.trans (kw.mono KW4.out.size)); have H10 : Hid (gOf (va 2) < gOf (vd 1)) := Lib.hid (by have := K5c.out.lt; omega); have H810 : Hid (gOf (vc 6) < gOf (vd 1)) := Lib.hid (by have := K8.out.lt; omega); have H910 : Hid (gOf (vc 7) < gOf (vd 1)) := Lib.hid (by have := K9.out.lt; omega)
      clear hW hv hx hg hl h4 hb hgr kb kw
      go_wp2_with fail
      go_loopw [11] (fun t11 wr => ∃ k : Nat, k ≤ n ∧ t11 = .int .i64 (k : Int) ∧ Blk wr (gOf (va 2)) 30 (tc (countT (begun own 0) (l.take k))) ∧ (Blk wr (gOf (vc 6)) 30 (tc T) ∧ Blk wr (gOf (vc 7)) 30 (tc TR) ∧ Blk wr (gOf (vd 1)) 30 (tc T) ∧ Blk wr w.heap.size 23 (rc own)) ∧ Below w.heap.size w wr) (fun t11 _ => n - (intOf t11).toNat)
      case atStart => exact ⟨0, by omega, rfl, K5d.out, ⟨K8d.out, K9d.out, K10.out, KOd.out⟩, KW5.out⟩
      case round =>
        obtain ⟨k, hk, rfl, hk5, ⟨hk8, hk9, hk10, hko⟩, hkw⟩ := hrel
        by_cases hkn : k < n
        · have hlen := HL.out.1
          obtain ⟨ad, rfl, hab, hcs⟩ := HL.out.2 (by omega)
          obtain ⟨r, hlk⟩ : ∃ r, l[k]? = some r := ⟨_, List.getElem?_eq_getElem (by omega)⟩
          have hT1 := count_take (begun own 0) l k r hlk
          obtain ⟨T1, eT1⟩ : ∃ T1, T1 = countT (begun own 0) (l.take k) := ⟨_, rfl⟩
          rw [← eT1] at hk5 hT1
          have ix1 : (0 : Int) ≤ (k : Int) := by omega
          have ix2 : (k : Int) < (n : Int) := by omega
          have kr : ∀ W, Below wr.heap.size wr W → W.cell? (ad.add (k * 4)) = some (.int .i64 r.inst) ∧ W.cell? ((ad.add (k * 4)).add 1) = some (.int .i64 r.mbal) ∧ W.cell? ((ad.add (k * 4)).add 2) = some (.int .i64 r.bal) ∧ W.cell? ((ad.add (k * 4)).add 3) = some (.string r.val) := by
            intro W hW
            obtain ⟨q0, q1, q2, q3⟩ := hcs k _ hlk
            have hs := hkw.size
            have hc : ∀ j, W.cell? (ad.add j) = w.cell? (ad.add j) := fun j => (hW.cell (by rw [blk_add]; omega)).trans (hkw.cell (by rw [blk_add]; omega))
            refine ⟨(hc _).trans q0, ?_, ?_, ?_⟩
            · rw [add_two]; exact (hc _).trans q1
            · rw [add_two]; exact (hc _).trans q2
            · rw [add_two]; exact (hc _).trans q3
          have KR := Lib.hid kr; have K5e := Lib.hid hk5; have K8e := Lib.hid hk8; have K9e := Lib.hid hk9; have K10e := Lib.hid hk10; have KOe := Lib.hid hko; have KW6 := Lib.hid hkw; have HT1 := Lib.hid hT1
          clear kr hk5 hk8 hk9 hk10 hko hkw hT1 eT1 hcs hlk hlen
          go_upto_region 14 with fail
          refine wp_region_grows 7 ((fun q_ _ _ => q_ = .agg (tc T1)) :: (fun q_ _ _ => q_ = .slice (some ad) n c) :: (fun q_ _ _ => q_ = .int .i64 (k : Int)) :: (fun q_ _ _ => q_ = .pointer (some (ad.add (k * 4)))) :: (fun q_ _ _ => q_ = .agg (rc r)) :: (fun q_ _ W => q_ = .slice (some ⟨sOf q_, 0, none⟩) 1 1 ∧ Blk W (sOf q_) 23 (rc r)) :: (fun q_ _ _ => q_ = .agg (tc (oneT T1 r))) :: []) (fun _ => false) (wr.heap.size) wr (by kernel_rfl) (by kernel_rfl) (by kernel_rfl) (Below.refl _ _) (Nat.le_refl _) ?eStab (fun _ h => by cases h) ?eOps ?eFin
          case eStab => exact ⟨st_is _, st_is _, st_is _, st_is _, st_is _, st_slice2 _ _, st_is _, trivial⟩
          case eOps =>
            intro Q
            refine ⟨?_, ?_, ?_, ?_, ?_, ?_, ?_, trivial⟩
            · intro ho a W hW hd hx
              have h5 : a.eval (.tmp 5) = .pointer (some ⟨(gOf (va 2)), 0, none⟩) := (hx 5 (dst_not (by kernel_rfl))).trans rfl
              exact op_value ho (want_none rfl) (v := .agg (tc T1)) (by intro ρ hρ kc kf; rw [← hρ] at h5; exact run_load_T h5 (K5e.out.below hW K5e.out.lt)) ⟨_, rfl, (fun h => by cases h), rfl, Below.refl _ _, (fun h => absurd h (by decide))⟩
            · intro ho a W hW hd hx
              have h1 : a.eval (.tmp 1) = .slice (some ad) n c := (hx 1 (dst_not (by kernel_rfl))).trans rfl
              exact op_value ho (want_none rfl) (v := .slice (some ad) n c) (by intro ρ hρ kc kf; rw [← hρ] at h1; clear hρ; simp [execOp, go_sem, h1]) ⟨_, rfl, (fun h => by cases h), rfl, Below.refl _ _, (fun h => absurd h (by decide))⟩
            · intro ho a W hW hd hx
              have h11 : a.eval (.tmp 11) = .int .i64 (k : Int) := (hx 11 (dst_not (by kernel_rfl))).trans rfl
              exact op_value ho (want_none rfl) (v := .int .i64 (k : Int)) (by intro ρ hρ kc kf; rw [← hρ] at h11; clear hρ; simp [execOp, go_sem, h11]) ⟨_, rfl, (fun h => by cases h), rfl, Below.refl _ _, (fun h => absurd h (by decide))⟩
            · intro ho a W hW hd hx
              have h54 : a.eval (.tmp 54) = .slice (some ad) n c := hd 1 (by kernel_rfl)
              have h55 : a.eval (.tmp 55) = .int .i64 (k : Int) := hd 2 (by kernel_rfl)
              exact op_value ho (want_none rfl) (v := .pointer (some (ad.add (k * 4)))) (by intro ρ hρ kc kf; rw [← hρ] at h54 h55; clear hρ; simp [execOp, go_sem, h54, h55, ix1, ix2]) ⟨_, rfl, (fun h => by cases h), rfl, Below.refl _ _, (fun h => absurd h (by decide))⟩
            · intro ho a W hW hd hx
              have h56 : a.eval (.tmp 56) = .pointer (some (ad.add (k * 4))) := hd 3 (by kernel_rfl)
              obtain ⟨q0, q1, q2, q3⟩ := KR.out W hW
              exact op_value ho (want_none rfl) (v := .agg (rc r)) (by intro ρ hρ kc kf; rw [← hρ] at h56; exact run_load_R h56 q0 q1 q2 q3) ⟨_, rfl, (fun h => by cases h), rfl, Below.refl _ _, (fun h => absurd h (by decide))⟩
            · intro ho a W hW hd hx
              have h57 : a.eval (.tmp 57) = .agg (rc r) := hd 4 (by kernel_rfl)
              exact op_value ho (want_none rfl) (v := .slice (some ⟨W.heap.size, 0, none⟩) 1 1) (w' := W.alloc (.cells (rc r) 23)) (by intro ρ hρ kc kf; rw [← hρ] at h57; clear hρ; simp [execOp, go_sem, h57, rc]) ⟨_, rfl, (fun h => by cases h), ⟨rfl, Blk.new W 23 _⟩, (Below.refl _ _).alloc (Nat.le_refl _) _, (fun h => absurd h (by decide))⟩
            · intro ho a W hW hd hx
              have h53 : a.eval (.tmp 53) = .agg (tc T1) := hd 0 (by kernel_rfl)
              have p58 : a.eval (.tmp 58) = .slice (some ⟨sOf (a.eval (.tmp 58)), 0, none⟩) 1 1 ∧ Blk W (sOf (a.eval (.tmp 58))) 23 (rc r) := (hd 5 (by kernel_rfl))
              obtain ⟨g58, hg58⟩ : ∃ g, g = sOf (a.eval (.tmp 58)) := ⟨_, rfl⟩
              rw [← hg58] at p58
              obtain ⟨h58, r58⟩ := p58
              refine op_call ho (want_none rfl) (by intro ρ hρ kc kf; rw [← hρ] at h53 h58; clear hρ; simp [execOp, go_sem, kf, h53, h58]) (count_blk T1 g58 r W r58) ?_
              rintro e W2 ⟨rfl, k2⟩
              exact ⟨_, rfl, _, rfl, (fun h => by cases h), rfl, k2, (fun h => absurd h (by decide))⟩
          intro ve W hW hv _
          have h6 : ve 6 = .agg (tc (oneT T1 r)) := hv 6 (by decide)
          simp only [List.take_succ_cons, List.take_zero, List.drop_succ_cons, List.drop_zero, fillL, wpTail, Act.put, List.setIfInBounds_toArray, List.set_cons_zero, List.set_cons_succ, Nat.reduceAdd]
          rw [h6]
          have kb := K5e.out.below hW K5e.out.lt
          have l5 := H5w.out
          refine tail_store_T (t := oneT T1 r) rfl rfl kb rfl ?_
          intro w6 kb6 hgr6
          have KB6 := Lib.hid kb6
          have l8 := H8.out; have l9 := H9.out; have l10 := H10.out
          have K8f := Lib.hid ((K8e.out.below hW K8e.out.lt).other hgr6 (by omega)); have K9f := Lib.hid ((K9e.out.below hW K9e.out.lt).other hgr6 (by omega)); have K10f := Lib.hid ((K10e.out.below hW K10e.out.lt).other hgr6 (by omega)); have KOf := Lib.hid ((KOe.out.below hW KOe.out.lt).other hgr6 (by omega))
          have KW7 : Hid (Below w.heap.size w w6) := Lib.hid ((KW6.out.trans (hW.mono KW6.out.size)).grown hgr6 (Nat.le_trans KW6.out.size hW.size) (fun j hj => by injection hj with e; omega))
          clear hW hv h6 kb l5 kb6 hgr6 l8 l9 l10
          go_wp2
          go_roundw
          case rel => exact ⟨k + 1, by omega, by go_num, by rw [HT1.out]; exact KB6.out, ⟨K8f.out, K9f.out, K10f.out, KOf.out⟩, KW7.out⟩
          case measure => simp [intOf]; omega
        · skip
          have hkn3 : l.take k = l := List.take_of_length_le (by have := HL.out.1; omega)
          rw [hkn3, ← HT.out] at hk5
          have ne105 : gOf (vd 1) ≠ gOf (va 2) := by have := H10.out; omega
          have ne108 : gOf (vc 6) ≠ gOf (vd 1) := by have := H810.out; omega
          have ne109 : gOf (vc 7) ≠ gOf (vd 1) := by have := H910.out; omega
          have ne58 : gOf (vc 6) ≠ gOf (va 2) := by have := H8.out; omega
          have ne59 : gOf (vc 7) ≠ gOf (va 2) := by have := H9.out; omega
          have neo5 : w.heap.size ≠ gOf (va 2) := by have := H5w.out; omega
          have neo10 : w.heap.size ≠ gOf (vd 1) := by have := H5w.out; have := H10.out; omega
          have c10 : wr.cell? ⟨gOf (vd 1), 3, none⟩ = some (.string T.val) := by rw [hk10.cell 3]; rfl
          have f10 := hk10.frozen 3
          have hk5' := hk5.set_other (g' := gOf (vd 1)) (Ne.symm ne105) 3 (.string ⟨#[]⟩)
          have c5 : (wr.setCell ⟨gOf (vd 1), 3, none⟩ (.string ⟨#[]⟩)).cell? ⟨gOf (va 2), 3, none⟩ = some (.string T.val) := by rw [hk5'.cell 3]; rfl
          have f5 := hk5'.frozen 3
          have kt10 := (hk10.set_ 3 (.string ⟨#[]⟩)).set_other (g' := gOf (va 2)) ne105 3 (.string ⟨#[]⟩)
          have kt5 := hk5'.set_ 3 (.string ⟨#[]⟩)
          have kt8 := (hk8.set_other (g' := gOf (vd 1)) ne108 3 (.string ⟨#[]⟩)).set_other (g' := gOf (va 2)) ne58 3 (.string ⟨#[]⟩)
          have kt9 := (hk9.set_other (g' := gOf (vd 1)) ne109 3 (.string ⟨#[]⟩)).set_other (g' := gOf (va 2)) ne59 3 (.string ⟨#[]⟩)
          have kto := (hko.set_other (g' := gOf (vd 1)) neo10 3 (.string ⟨#[]⟩)).set_other (g' := gOf (va 2)) neo5 3 (.string ⟨#[]⟩)
          have ktw : Below w.heap.size w ((wr.setCell ⟨gOf (vd 1), 3, none⟩ (.string ⟨#[]⟩)).setCell ⟨gOf (va 2), 3, none⟩ (.string ⟨#[]⟩)) := (hkw.setCell (by show w.heap.size ≤ gOf (vd 1); have := H5w.out; have := H10.out; omega) _).setCell (by show w.heap.size ≤ gOf (va 2); have := H5w.out; omega) _
          obtain ⟨TE, hTE⟩ : ∃ TE : Ty, TE = { T with val := ⟨#[]⟩ } := ⟨_, rfl⟩
          have eTE : (tc T).setIfInBounds 3 (.string ⟨#[]⟩) = tc TE := by rw [hTE]; rfl
          rw [eTE] at kt10 kt5
          have KT10 := Lib.hid kt10; have KT5 := Lib.hid kt5; have KT8 := Lib.hid kt8; have KT9 := Lib.hid kt9; have KTO := Lib.hid kto; have KTW := Lib.hid ktw
          clear hk5 hk8 hk9 hk10 hko hkw hk5' kt10 kt5 kt8 kt9 kto ktw hTE eTE hkn3 ne105 ne108 ne109 ne58 ne59 neo5 neo10
          simp only [ptr]
          go_upto_region 17 with fail
          clear c10 f10 c5 f5
          obtain ⟨w5, hw5⟩ : ∃ w5, w5 = (wr.setCell ⟨gOf (vd 1), 3, none⟩ (.string ⟨#[]⟩)).setCell ⟨gOf (va 2), 3, none⟩ (.string ⟨#[]⟩) := ⟨_, rfl⟩
          rw [← hw5] at KT10 KT5 KT8 KT9 KTO KTW ⊢
          clear hw5
          refine wp_region_tails 3 ((fun q_ _ _ => q_ = .agg (rc own)) :: (fun q_ _ W => q_ = .slice (some ⟨sOf q_, 0, none⟩) 1 1 ∧ w5.heap.size ≤ sOf q_ ∧ Blk W (sOf q_) 23 (rc own)) :: (fun q_ _ _ => q_ = .slice A n c) :: []) (fun _ => false) (w5.heap.size) w5 (by kernel_rfl) (by kernel_rfl) (by kernel_rfl) (Below.refl _ _) (Nat.le_refl _) ?fStab (fun _ h => by cases h) ?fOps ?fFin
          case fStab => exact ⟨st_is _, st_slice3 _ _ _, st_is _, trivial⟩
          case fOps =>
            intro Q
            refine ⟨?_, ?_, ?_, trivial⟩
            · intro ho a W hW hd hx
              have h2 : a.eval (.tmp 2) = .pointer (some ⟨w.heap.size, 0, none⟩) := (hx 2 (dst_notT (by kernel_rfl))).trans rfl
              exact op_value ho (want_none rfl) (v := .agg (rc own)) (by intro ρ hρ kc kf; rw [← hρ] at h2; exact run_load_B h2 (KTO.out.below hW KTO.out.lt)) ⟨_, rfl, (fun h => by cases h), rfl, Below.refl _ _, (fun h => absurd h (by decide))⟩
            · intro ho a W hW hd hx
              have h62 : a.eval (.tmp 62) = .agg (rc own) := hd 0 (by kernel_rfl)
              exact op_value ho (want_none rfl) (v := .slice (some ⟨W.heap.size, 0, none⟩) 1 1) (w' := W.alloc (.cells (rc own) 23)) (by intro ρ hρ kc kf; rw [← hρ] at h62; clear hρ; simp [execOp, go_sem, h62, rc]) ⟨_, rfl, (fun h => by cases h), ⟨rfl, hW.size, Blk.new W 23 _⟩, (Below.refl _ _).alloc (Nat.le_refl _) _, (fun h => absurd h (by decide))⟩
            · intro ho a W hW hd hx
              have h1 : a.eval (.tmp 1) = .slice A n c := (hx 1 (dst_notT (by kernel_rfl))).trans rfl
              exact op_value ho (want_none rfl) (v := .slice A n c) (by intro ρ hρ kc kf; rw [← hρ] at h1; clear hρ; simp [execOp, go_sem, h1]) ⟨_, rfl, (fun h => by cases h), rfl, Below.refl _ _, (fun h => absurd h (by decide))⟩
          intro vf W hW hv _
          have h1 : vf 1 = .slice (some ⟨sOf (vf 1), 0, none⟩) 1 1 ∧ w5.heap.size ≤ sOf (vf 1) ∧ Blk W (sOf (vf 1)) 23 (rc own) := hv 1 (by decide)
          have h2 : vf 2 = .slice A n c := hv 2 (by decide)
          have h1a := h1.1
          simp only [List.take_succ_cons, List.take_zero, List.drop_succ_cons, List.drop_zero, fillL, wpTail, Act.put, List.setIfInBounds_toArray, List.set_cons_zero, List.set_cons_succ, Nat.reduceAdd]
          rw [h1a, h2]
          have hown := OwnR.of_blk h1.2.2 h1.2.1
          refine tail_append (l := [own]) (m := l) (base := w5.heap.size) (B := w.heap.size) rfl rfl hown (HL.out.below (KTW.out.trans (hW.mono KTW.out.size))) HS.out (by simp; omega) hW.size ?_
          intro v13 w6 hown6 hgr6
          refine tail_assign ?_
          have hfar := hown.far
          have m8 := KT8.out.lt; have m9 := KT9.out.lt; have m10 := KT10.out.lt; have m5 := KT5.out.lt; have mo := KTO.out.lt
          have kp : ∀ {g : Nat} {t : TypeId} {cs : Array Value}, Blk w5 g t cs → Blk w6 g t cs := fun {g t cs} h => (hgr6.block _ (Nat.lt_of_lt_of_le h.lt hW.size) (fun e => by have := (hfar _ e.symm).1; have := h.lt; omega)).trans (h.below hW h.lt)
          have K8g := Lib.hid (kp KT8.out); have K9g := Lib.hid (kp KT9.out); have K10g := Lib.hid (kp KT10.out); have K5g := Lib.hid (kp KT5.out); have KOg := Lib.hid (kp KTO.out)
          have KW6 : Hid (Below w.heap.size w w6) := Lib.hid ((KTW.out.trans (hW.mono KTW.out.size)).grown hgr6 (Nat.le_trans KTW.out.size hW.size) (fun j hj => by have := (hfar _ hj).1; have := KTW.out.size; omega))
          have hsh : ∃ A13 c13, v13 = .slice A13 (n + 1) c13 ∧ RdR w6 w6.heap.size A13 (n + 1) (own :: l) := by
            obtain ⟨A13, c13, e1, e2, _⟩ := hown6.shape
            have e3 : ([own] ++ l).length = n + 1 := by have := HL.out.1; simp; omega
            rw [e3] at e1 e2
            exact ⟨A13, c13, e1, e2⟩
          clear hW hv h1 h2 h1a hown hown6 hgr6 hfar m8 m9 m10 m5 mo kp
          refine Exists.elim hsh fun A13 hsh2 => ?_
          refine Exists.elim hsh2 fun c13 hsh3 => ?_
          have hv13 := hsh3.1
          have HRD := Lib.hid hsh3.2
          clear hsh hsh2 hsh3
          rw [hv13]
          clear hv13
          go_wp2
          go_loopw [12, 14] (fun t12 t14 wr => ∃ (k : Nat) (s : Bool), k ≤ n + 1 ∧ t14 = .int .i64 (k : Int) ∧ t12 = .bool s ∧ Hid (s = true → pairs own.inst (own :: l) k 0) ∧ ∃ m, wr = w6.drewN m) (fun _ t14 _ => n + 1 - (intOf t14).toNat)
          case atStart => exact ⟨0, true, by omega, rfl, rfl, Lib.hid (fun _ => ⟨fun p q h => by omega, fun q h => by omega⟩), 0, rfl⟩
          case round =>
            obtain ⟨k, s, hk, rfl, rfl, HP, m, rfl⟩ := hrel
            by_cases hkn : k < n + 1
            · have z2 : (k : Int) < (n : Int) + 1 := by omega
              go_wp2
              go_loopw [12, 15] (fun t12 t15 wr => ∃ (q : Nat) (s : Bool), q ≤ k ∧ t15 = .int .i64 (q : Int) ∧ t12 = .bool s ∧ Hid (s = true → pairs own.inst (own :: l) k q) ∧ ∃ m, wr = w6.drewN m) (fun _ t15 _ => k - (intOf t15).toNat)
              case atStart => exact ⟨0, s, by omega, rfl, rfl, HP, m, rfl⟩
              case round =>
                obtain ⟨q, s2, hq, rfl, rfl, HQ, m2, rfl⟩ := hrel
                by_cases hqk : q < k
                · have hrl := HRD.out.1
                  obtain ⟨ad, rfl, hab, hcs⟩ := HRD.out.2 (by omega)
                  obtain ⟨ri, hri⟩ : ∃ r, (own :: l)[k]? = some r := ⟨_, List.getElem?_eq_getElem (by omega)⟩
                  obtain ⟨rq, hrq⟩ : ∃ r, (own :: l)[q]? = some r := ⟨_, List.getElem?_eq_getElem (by omega)⟩
                  obtain ⟨i0, _, i2, i3⟩ := hcs k _ hri
                  obtain ⟨j0, _, j2, j3⟩ := hcs q _ hrq
                  rw [← add_two] at i2 i3 j2 j3
                  have i2 : w6.cell? ⟨(ad.add (k * 4)).block, (ad.add (k * 4)).off + 2, none⟩ = some (.int .i64 ri.bal) := i2
                  have i3 : w6.cell? ⟨(ad.add (k * 4)).block, (ad.add (k * 4)).off + 3, none⟩ = some (.string ri.val) := i3
                  have j2 : w6.cell? ⟨(ad.add (q * 4)).block, (ad.add (q * 4)).off + 2, none⟩ = some (.int .i64 rq.bal) := j2
                  have j3 : w6.cell? ⟨(ad.add (q * 4)).block, (ad.add (q * 4)).off + 3, none⟩ = some (.string rq.val) := j3
                  have o0 : w6.cell? ⟨w.heap.size, 0, none⟩ = some (.int .i64 own.inst) := by rw [KOg.out.cell 0]; rfl
                  have x1 : (0 : Int) ≤ (k : Int) := by omega
                  have x2 : (k : Int) < (n : Int) + 1 := by omega
                  have y1 : (0 : Int) ≤ (q : Int) := by omega
                  have y2 : (q : Int) < (n : Int) + 1 := by omega
                  have y3 : (q : Int) < (k : Int) := by omega
                  have HRI := Lib.hid hri; have HRQ := Lib.hid hrq
                  clear hcs hri hrq hrl
                  cases s2 with
                  | false =>
                    go_wp2
                    go_quiet (fail)
                    go_wp2
                    go_roundw
                    case rel => exact ⟨q + 1, false, by omega, by go_num, rfl, Lib.hid (fun h => by cases h), _, rfl⟩
                    case measure => simp [intOf]; omega
                  | true =>
                  by_cases hA : ri.inst = own.inst
                  · have A1 : (ri.inst == own.inst) = true := by simp [hA]
                    have A2 : (ri.inst != own.inst) = false := by simp [hA]
                    have HA := Lib.hid hA; clear hA
                    by_cases hB : rq.inst = own.inst
                    · have B1 : (rq.inst == own.inst) = true := by simp [hB]
                      have B2 : (rq.inst != own.inst) = false := by simp [hB]
                      have HB := Lib.hid hB; clear hB
                      by_cases hC : ri.bal = rq.bal
                      · have C1 : (ri.bal == rq.bal) = true := by simp [hC]
                        have C2 : (ri.bal != rq.bal) = false := by simp [hC]
                        have HC := Lib.hid hC; clear hC
                        by_cases hD : ri.val.toList = rq.val.toList
                        · skip
                          have D1 : (ri.val.toList == rq.val.toList) = true := by simp [hD]
                          have HD := Lib.hid hD; clear hD
                          go_wp2
                          go_quiet (fail)
                          go_wp2
                          go_roundw
                          case rel => exact ⟨q + 1, true, by omega, by go_num, rfl, Lib.hid (fun _ => pair_step (HQ.out trivial) (fun r s hr hs _ _ _ => by rw [HRI.out] at hr; rw [HRQ.out] at hs; cases hr; cases hs; exact toList_eq HD.out.symm)), _, rfl⟩
                          case measure => simp [intOf]; omega
                        · skip
                          have D1 : (ri.val.toList == rq.val.toList) = false := by simp [hD]
                          clear hD
                          go_wp2
                          go_quiet (fail)
                          go_wp2
                          go_roundw
                          case rel => exact ⟨q + 1, false, by omega, by go_num, rfl, Lib.hid (fun h => by cases h), _, rfl⟩
                          case measure => simp [intOf]; omega
                      · skip
                        have C1 : (ri.bal == rq.bal) = false := by simp [hC]
                        have C2 : (ri.bal != rq.bal) = true := by simp [hC]
                        have HC := Lib.hid hC; clear hC
                        go_wp2
                        go_quiet (fail)
                        go_wp2
                        go_roundw
                        case rel => exact ⟨q + 1, true, by omega, by go_num, rfl, Lib.hid (fun _ => pair_step (HQ.out trivial) (fun r s hr hs _ _ h => by rw [HRI.out] at hr; rw [HRQ.out] at hs; cases hr; cases hs; exact absurd h HC.out)), _, rfl⟩
                        case measure => simp [intOf]; omega
                    · skip
                      have B1 : (rq.inst == own.inst) = false := by simp [hB]
                      have B2 : (rq.inst != own.inst) = true := by simp [hB]
                      have HB := Lib.hid hB; clear hB
                      go_wp2
                      go_quiet (fail)
                      go_wp2
                      go_roundw
                      case rel => exact ⟨q + 1, true, by omega, by go_num, rfl, Lib.hid (fun _ => pair_step (HQ.out trivial) (fun r s hr hs _ h _ => by rw [HRI.out] at hr; rw [HRQ.out] at hs; cases hr; cases hs; exact absurd h HB.out)), _, rfl⟩
                      case measure => simp [intOf]; omega
                  · skip
                    have A1 : (ri.inst == own.inst) = false := by simp [hA]
                    have A2 : (ri.inst != own.inst) = true := by simp [hA]
                    have HA := Lib.hid hA; clear hA
                    go_wp2
                    go_quiet (fail)
                    go_wp2
                    go_roundw
                    case rel => exact ⟨q + 1, true, by omega, by go_num, rfl, Lib.hid (fun _ => pair_step (HQ.out trivial) (fun r s hr hs h _ _ => by rw [HRI.out] at hr; rw [HRQ.out] at hs; cases hr; cases hs; exact absurd h HA.out)), _, rfl⟩
                    case measure => simp [intOf]; omega
                · have y3 : ¬ (q : Int) < (k : Int) := by omega
                  have hqk2 : q = k := by omega
                  have HQK := Lib.hid hqk2; clear hqk2
                  go_wp2
                  go_roundw
                  case rel => exact ⟨k + 1, s2, by omega, by go_num, rfl, Lib.hid (fun h => pairs_next (by have := HQ.out h; rw [HQK.out] at this; exact this)), _, rfl⟩
                  case measure => simp [intOf]; omega
            · have z2 : ¬ (k : Int) < (n : Int) + 1 := by omega
              have hkn9 : k = n + 1 := by omega
              have HK9 := Lib.hid hkn9
              clear hkn9
              have eTR : TR = { T with val := TR.val } := by
                obtain ⟨q1, q2, q3, q4⟩ := cnt_order (begun own 0) l
                rw [← HT.out, ← HTR.out] at q1 q2 q3 q4
                obtain ⟨u1, u2⟩ := cnt_keep l (begun own 0)
                obtain ⟨v1, v2⟩ := cnt_keep l.reverse (begun own 0)
                rw [← HT.out] at u1 u2
                rw [← HTR.out] at v1 v2
                exact ty_ext (v1.trans u1.symm) (v2.trans u2.symm) q4 q1 q2 q3
              have hval : s = true → TR.val = T.val := fun h => by
                have hp := HP.out h
                rw [HK9.out] at hp
                rw [HT.out, HTR.out]
                exact cnt_alike own l (pairs_alike hp (by have := HL.out.1; simp; omega))
              have k9 := K9g.out.drewN m
              rw [eTR] at k9
              obtain ⟨TV, hTV⟩ : ∃ TV, TV = TR.val := ⟨_, rfl⟩
              rw [← hTV] at k9 hval
              obtain ⟨w7, hw7⟩ : ∃ w7, w7 = w6.drewN m := ⟨_, rfl⟩
              have k8 := K8g.out.drewN m; have k10 := K10g.out.drewN m; have k5 := K5g.out.drewN m
              have kw := bdrew KW6.out m
              rw [← hw7] at k9 k8 k10 k5 kw ⊢
              have K8h := Lib.hid k8; have K9h := Lib.hid k9; have K10h := Lib.hid k10; have K5h := Lib.hid k5; have KW7 := Lib.hid kw; have HV := Lib.hid hval
              clear k8 k9 k10 k5 kw hw7 hTV eTR hval
              go_upto_region 25 with fail
              refine wp_region_grows 31 ((fun q_ _ _ => q_ = .pointer (some ⟨(gOf (vc 6)), 4, none⟩)) :: (fun q_ _ _ => q_ = .int .i64 T.seen) :: (fun q_ _ _ => q_ = .pointer (some ⟨(gOf (vc 7)), 4, none⟩)) :: (fun q_ _ _ => q_ = .int .i64 T.seen) :: (fun q_ _ _ => q_ = .bool false) :: (fun q_ _ _ => q_ = .bool false) :: (fun q_ _ _ => q_ = .pointer (some ⟨(gOf (vc 6)), 5, none⟩)) :: (fun q_ _ _ => q_ = .bool T.ahead) :: (fun q_ _ _ => q_ = .pointer (some ⟨(gOf (vc 7)), 5, none⟩)) :: (fun q_ _ _ => q_ = .bool T.ahead) :: (fun q_ _ _ => q_ = .bool false) :: (fun q_ _ _ => q_ = .bool false) :: (fun q_ _ _ => q_ = .bool false) :: (fun q_ _ _ => q_ = .pointer (some ⟨(gOf (vc 6)), 6, none⟩)) :: (fun q_ _ _ => q_ = .bool T.lost) :: (fun q_ _ _ => q_ = .pointer (some ⟨(gOf (vc 7)), 6, none⟩)) :: (fun q_ _ _ => q_ = .bool T.lost) :: (fun q_ _ _ => q_ = .bool false) :: (fun q_ _ _ => q_ = .bool false) :: (fun q_ _ _ => q_ = .bool false) :: (fun q_ _ _ => q_ = .pointer (some ⟨(gOf (vc 6)), 2, none⟩)) :: (fun q_ _ _ => q_ = .int .i64 T.best) :: (fun q_ _ _ => q_ = .pointer (some ⟨(gOf (vc 7)), 2, none⟩)) :: (fun q_ _ _ => q_ = .int .i64 T.best) :: (fun q_ _ _ => q_ = .bool false) :: (fun q_ _ _ => q_ = .bool false) :: (fun q_ _ _ => q_ = .bool false) :: (fun q_ _ _ => q_ = .agg (tc TE)) :: (fun q_ _ _ => q_ = .agg (tc TE)) :: (fun q_ _ _ => q_ = .bool false) :: (fun q_ _ _ => q_ = .bool false) :: []) (fun _ => false) (w7.heap.size) w7 (by kernel_rfl) (by kernel_rfl) (by kernel_rfl) (Below.refl _ _) (Nat.le_refl _) ?gStab (fun _ h => by cases h) ?gOps ?gFin
              case gStab => exact ⟨st_is _, st_is _, st_is _, st_is _, st_is _, st_is _, st_is _, st_is _, st_is _, st_is _, st_is _, st_is _, st_is _, st_is _, st_is _, st_is _, st_is _, st_is _, st_is _, st_is _, st_is _, st_is _, st_is _, st_is _, st_is _, st_is _, st_is _, st_is _, st_is _, st_is _, st_is _, trivial⟩
              case gOps =>
                intro Q
                refine ⟨?_, ?_, ?_, ?_, ?_, ?_, ?_, ?_, ?_, ?_, ?_, ?_, ?_, ?_, ?_, ?_, ?_, ?_, ?_, ?_, ?_, ?_, ?_, ?_, ?_, ?_, ?_, ?_, ?_, ?_, ?_, trivial⟩
                · intro ho a W hW hd hx
                  have h8 : a.eval (.tmp 8) = .pointer (some ⟨(gOf (vc 6)), 0, none⟩) := (hx 8 (dst_not (by kernel_rfl))).trans rfl
                  exact op_value ho (want_none rfl) (v := .pointer (some ⟨(gOf (vc 6)), 4, none⟩)) (by intro ρ hρ kc kf; rw [← hρ] at h8; clear hρ; simp [execOp, go_sem, h8]) ⟨_, rfl, (fun h => by cases h), rfl, Below.refl _ _, (fun h => absurd h (by decide))⟩
                · intro ho a W hW hd hx
                  have h124 : a.eval (.tmp 124) = .pointer (some ⟨(gOf (vc 6)), 4, none⟩) := hd 0 (by kernel_rfl)
                  have hcell : W.cell? ⟨(gOf (vc 6)), 4, none⟩ = some (.int .i64 T.seen) := by rw [(K8h.out.below hW K8h.out.lt).cell 4]; rfl
                  exact op_value ho (want_none rfl) (v := .int .i64 T.seen) (by intro ρ hρ kc kf; rw [← hρ] at h124; clear hρ; simp [execOp, go_sem, h124, hcell]) ⟨_, rfl, (fun h => by cases h), rfl, Below.refl _ _, (fun h => absurd h (by decide))⟩
                · intro ho a W hW hd hx
                  have h9 : a.eval (.tmp 9) = .pointer (some ⟨(gOf (vc 7)), 0, none⟩) := (hx 9 (dst_not (by kernel_rfl))).trans rfl
                  exact op_value ho (want_none rfl) (v := .pointer (some ⟨(gOf (vc 7)), 4, none⟩)) (by intro ρ hρ kc kf; rw [← hρ] at h9; clear hρ; simp [execOp, go_sem, h9]) ⟨_, rfl, (fun h => by cases h), rfl, Below.refl _ _, (fun h => absurd h (by decide))⟩
                · intro ho a W hW hd hx
                  have h126 : a.eval (.tmp 126) = .pointer (some ⟨(gOf (vc 7)), 4, none⟩) := hd 2 (by kernel_rfl)
                  have hcell : W.cell? ⟨(gOf (vc 7)), 4, none⟩ = some (.int .i64 T.seen) := by rw [(K9h.out.below hW K9h.out.lt).cell 4]; rfl
                  exact op_value ho (want_none rfl) (v := .int .i64 T.seen) (by intro ρ hρ kc kf; rw [← hρ] at h126; clear hρ; simp [execOp, go_sem, h126, hcell]) ⟨_, rfl, (fun h => by cases h), rfl, Below.refl _ _, (fun h => absurd h (by decide))⟩
                · intro ho a W hW hd hx
                  have h125 : a.eval (.tmp 125) = .int .i64 T.seen := hd 1 (by kernel_rfl)
                  have h127 : a.eval (.tmp 127) = .int .i64 T.seen := hd 3 (by kernel_rfl)
                  exact op_value ho (want_none rfl) (v := .bool false) (by intro ρ hρ kc kf; rw [← hρ] at h125 h127; clear hρ; simp [execOp, go_sem, h125, h127]) ⟨_, rfl, (fun h => by cases h), rfl, Below.refl _ _, (fun h => absurd h (by decide))⟩
                · intro ho a W hW hd hx
                  have h128 : a.eval (.tmp 128) = .bool false := hd 4 (by kernel_rfl)
                  exact op_value ho (want_none rfl) (v := .bool false) (by intro ρ hρ kc kf; rw [← hρ] at h128; clear hρ; simp [execOp, go_sem, h128]) ⟨_, rfl, (fun h => by cases h), rfl, Below.refl _ _, (fun h => absurd h (by decide))⟩
                · intro ho a W hW hd hx
                  have h129 : a.eval (.tmp 129) = .bool false := hd 5 (by kernel_rfl)
                  have h8 : a.eval (.tmp 8) = .pointer (some ⟨(gOf (vc 6)), 0, none⟩) := (hx 8 (dst_not (by kernel_rfl))).trans rfl
                  exact op_value ho (want_yes rfl (show valAt _ a 5 = _ from h129)) (v := .pointer (some ⟨(gOf (vc 6)), 5, none⟩)) (by intro ρ hρ kc kf; rw [← hρ] at h8; clear hρ; simp [execOp, go_sem, h8]) ⟨_, rfl, (fun h => by cases h), rfl, Below.refl _ _, (fun h => absurd h (by decide))⟩
                · intro ho a W hW hd hx
                  have h129 : a.eval (.tmp 129) = .bool false := hd 5 (by kernel_rfl)
                  have h130 : a.eval (.tmp 130) = .pointer (some ⟨(gOf (vc 6)), 5, none⟩) := hd 6 (by kernel_rfl)
                  have hcell : W.cell? ⟨(gOf (vc 6)), 5, none⟩ = some (.bool T.ahead) := by rw [(K8h.out.below hW K8h.out.lt).cell 5]; rfl
                  exact op_value ho (want_yes rfl (show valAt _ a 5 = _ from h129)) (v := .bool T.ahead) (by intro ρ hρ kc kf; rw [← hρ] at h130; clear hρ; simp [execOp, go_sem, h130, hcell]) ⟨_, rfl, (fun h => by cases h), rfl, Below.refl _ _, (fun h => absurd h (by decide))⟩
                · intro ho a W hW hd hx
                  have h129 : a.eval (.tmp 129) = .bool false := hd 5 (by kernel_rfl)
                  have h9 : a.eval (.tmp 9) = .pointer (some ⟨(gOf (vc 7)), 0, none⟩) := (hx 9 (dst_not (by kernel_rfl))).trans rfl
                  exact op_value ho (want_yes rfl (show valAt _ a 5 = _ from h129)) (v := .pointer (some ⟨(gOf (vc 7)), 5, none⟩)) (by intro ρ hρ kc kf; rw [← hρ] at h9; clear hρ; simp [execOp, go_sem, h9]) ⟨_, rfl, (fun h => by cases h), rfl, Below.refl _ _, (fun h => absurd h (by decide))⟩
                · intro ho a W hW hd hx
                  have h129 : a.eval (.tmp 129) = .bool false := hd 5 (by kernel_rfl)
                  have h132 : a.eval (.tmp 132) = .pointer (some ⟨(gOf (vc 7)), 5, none⟩) := hd 8 (by kernel_rfl)
                  have hcell : W.cell? ⟨(gOf (vc 7)), 5, none⟩ = some (.bool T.ahead) := by rw [(K9h.out.below hW K9h.out.lt).cell 5]; rfl
                  exact op_value ho (want_yes rfl (show valAt _ a 5 = _ from h129)) (v := .bool T.ahead) (by intro ρ hρ kc kf; rw [← hρ] at h132; clear hρ; simp [execOp, go_sem, h132, hcell]) ⟨_, rfl, (fun h => by cases h), rfl, Below.refl _ _, (fun h => absurd h (by decide))⟩
                · intro ho a W hW hd hx
                  have h129 : a.eval (.tmp 129) = .bool false := hd 5 (by kernel_rfl)
                  have h131 : a.eval (.tmp 131) = .bool T.ahead := hd 7 (by kernel_rfl)
                  have h133 : a.eval (.tmp 133) = .bool T.ahead := hd 9 (by kernel_rfl)
                  exact op_value ho (want_yes rfl (show valAt _ a 5 = _ from h129)) (v := .bool false) (by intro ρ hρ kc kf; rw [← hρ] at h131 h133; clear hρ; simp [execOp, go_sem, h131, h133]) ⟨_, rfl, (fun h => by cases h), rfl, Below.refl _ _, (fun h => absurd h (by decide))⟩
                · intro ho a W hW hd hx
                  have h129 : a.eval (.tmp 129) = .bool false := hd 5 (by kernel_rfl)
                  have h134 : a.eval (.tmp 134) = .bool false := hd 10 (by kernel_rfl)
                  exact op_value ho (want_none rfl) (v := .bool false) (by intro ρ hρ kc kf; rw [← hρ] at h129 h134; clear hρ; simp [execOp, go_sem, h129, h134]) ⟨_, rfl, (fun h => by cases h), rfl, Below.refl _ _, (fun h => absurd h (by decide))⟩
                · intro ho a W hW hd hx
                  have h135 : a.eval (.tmp 135) = .bool false := hd 11 (by kernel_rfl)
                  exact op_value ho (want_none rfl) (v := .bool false) (by intro ρ hρ kc kf; rw [← hρ] at h135; clear hρ; simp [execOp, go_sem, h135]) ⟨_, rfl, (fun h => by cases h), rfl, Below.refl _ _, (fun h => absurd h (by decide))⟩
                · intro ho a W hW hd hx
                  have h136 : a.eval (.tmp 136) = .bool false := hd 12 (by kernel_rfl)
                  have h8 : a.eval (.tmp 8) = .pointer (some ⟨(gOf (vc 6)), 0, none⟩) := (hx 8 (dst_not (by kernel_rfl))).trans rfl
                  exact op_value ho (want_yes rfl (show valAt _ a 12 = _ from h136)) (v := .pointer (some ⟨(gOf (vc 6)), 6, none⟩)) (by intro ρ hρ kc kf; rw [← hρ] at h8; clear hρ; simp [execOp, go_sem, h8]) ⟨_, rfl, (fun h => by cases h), rfl, Below.refl _ _, (fun h => absurd h (by decide))⟩
                · intro ho a W hW hd hx
                  have h136 : a.eval (.tmp 136) = .bool false := hd 12 (by kernel_rfl)
                  have h137 : a.eval (.tmp 137) = .pointer (some ⟨(gOf (vc 6)), 6, none⟩) := hd 13 (by kernel_rfl)
                  have hcell : W.cell? ⟨(gOf (vc 6)), 6, none⟩ = some (.bool T.lost) := by rw [(K8h.out.below hW K8h.out.lt).cell 6]; rfl
                  exact op_value ho (want_yes rfl (show valAt _ a 12 = _ from h136)) (v := .bool T.lost) (by intro ρ hρ kc kf; rw [← hρ] at h137; clear hρ; simp [execOp, go_sem, h137, hcell]) ⟨_, rfl, (fun h => by cases h), rfl, Below.refl _ _, (fun h => absurd h (by decide))⟩
                · intro ho a W hW hd hx
                  have h136 : a.eval (.tmp 136) = .bool false := hd 12 (by kernel_rfl)
                  have h9 : a.eval (.tmp 9) = .pointer (some ⟨(gOf (vc 7)), 0, none⟩) := (hx 9 (dst_not (by kernel_rfl))).trans rfl
                  exact op_value ho (want_yes rfl (show valAt _ a 12 = _ from h136)) (v := .pointer (some ⟨(gOf (vc 7)), 6, none⟩)) (by intro ρ hρ kc kf; rw [← hρ] at h9; clear hρ; simp [execOp, go_sem, h9]) ⟨_, rfl, (fun h => by cases h), rfl, Below.refl _ _, (fun h => absurd h (by decide))⟩
                · intro ho a W hW hd hx
                  have h136 : a.eval (.tmp 136) = .bool false := hd 12 (by kernel_rfl)
                  have h139 : a.eval (.tmp 139) = .pointer (some ⟨(gOf (vc 7)), 6, none⟩) := hd 15 (by kernel_rfl)
                  have hcell : W.cell? ⟨(gOf (vc 7)), 6, none⟩ = some (.bool T.lost) := by rw [(K9h.out.below hW K9h.out.lt).cell 6]; rfl
                  exact op_value ho (want_yes rfl (show valAt _ a 12 = _ from h136)) (v := .bool T.lost) (by intro ρ hρ kc kf; rw [← hρ] at h139; clear hρ; simp [execOp, go_sem, h139, hcell]) ⟨_, rfl, (fun h => by cases h), rfl, Below.refl _ _, (fun h => absurd h (by decide))⟩
                · intro ho a W hW hd hx
                  have h136 : a.eval (.tmp 136) = .bool false := hd 12 (by kernel_rfl)
                  have h138 : a.eval (.tmp 138) = .bool T.lost := hd 14 (by kernel_rfl)
                  have h140 : a.eval (.tmp 140) = .bool T.lost := hd 16 (by kernel_rfl)
                  exact op_value ho (want_yes rfl (show valAt _ a 12 = _ from h136)) (v := .bool false) (by intro ρ hρ kc kf; rw [← hρ] at h138 h140; clear hρ; simp [execOp, go_sem, h138, h140]) ⟨_, rfl, (fun h => by cases h), rfl, Below.refl _ _, (fun h => absurd h (by decide))⟩
                · intro ho a W hW hd hx
                  have h136 : a.eval (.tmp 136) = .bool false := hd 12 (by kernel_rfl)
                  have h141 : a.eval (.tmp 141) = .bool false := hd 17 (by kernel_rfl)
                  exact op_value ho (want_none rfl) (v := .bool false) (by intro ρ hρ kc kf; rw [← hρ] at h136 h141; clear hρ; simp [execOp, go_sem, h136, h141]) ⟨_, rfl, (fun h => by cases h), rfl, Below.refl _ _, (fun h => absurd h (by decide))⟩
                · intro ho a W hW hd hx
                  have h142 : a.eval (.tmp 142) = .bool false := hd 18 (by kernel_rfl)
                  exact op_value ho (want_none rfl) (v := .bool false) (by intro ρ hρ kc kf; rw [← hρ] at h142; clear hρ; simp [execOp, go_sem, h142]) ⟨_, rfl, (fun h => by cases h), rfl, Below.refl _ _, (fun h => absurd h (by decide))⟩
                · intro ho a W hW hd hx
                  have h143 : a.eval (.tmp 143) = .bool false := hd 19 (by kernel_rfl)
                  have h8 : a.eval (.tmp 8) = .pointer (some ⟨(gOf (vc 6)), 0, none⟩) := (hx 8 (dst_not (by kernel_rfl))).trans rfl
                  exact op_value ho (want_yes rfl (show valAt _ a 19 = _ from h143)) (v := .pointer (some ⟨(gOf (vc 6)), 2, none⟩)) (by intro ρ hρ kc kf; rw [← hρ] at h8; clear hρ; simp [execOp, go_sem, h8]) ⟨_, rfl, (fun h => by cases h), rfl, Below.refl _ _, (fun h => absurd h (by decide))⟩
                · intro ho a W hW hd hx
                  have h143 : a.eval (.tmp 143) = .bool false := hd 19 (by kernel_rfl)
                  have h144 : a.eval (.tmp 144) = .pointer (some ⟨(gOf (vc 6)), 2, none⟩) := hd 20 (by kernel_rfl)
                  have hcell : W.cell? ⟨(gOf (vc 6)), 2, none⟩ = some (.int .i64 T.best) := by rw [(K8h.out.below hW K8h.out.lt).cell 2]; rfl
                  exact op_value ho (want_yes rfl (show valAt _ a 19 = _ from h143)) (v := .int .i64 T.best) (by intro ρ hρ kc kf; rw [← hρ] at h144; clear hρ; simp [execOp, go_sem, h144, hcell]) ⟨_, rfl, (fun h => by cases h), rfl, Below.refl _ _, (fun h => absurd h (by decide))⟩
                · intro ho a W hW hd hx
                  have h143 : a.eval (.tmp 143) = .bool false := hd 19 (by kernel_rfl)
                  have h9 : a.eval (.tmp 9) = .pointer (some ⟨(gOf (vc 7)), 0, none⟩) := (hx 9 (dst_not (by kernel_rfl))).trans rfl
                  exact op_value ho (want_yes rfl (show valAt _ a 19 = _ from h143)) (v := .pointer (some ⟨(gOf (vc 7)), 2, none⟩)) (by intro ρ hρ kc kf; rw [← hρ] at h9; clear hρ; simp [execOp, go_sem, h9]) ⟨_, rfl, (fun h => by cases h), rfl, Below.refl _ _, (fun h => absurd h (by decide))⟩
                · intro ho a W hW hd hx
                  have h143 : a.eval (.tmp 143) = .bool false := hd 19 (by kernel_rfl)
                  have h146 : a.eval (.tmp 146) = .pointer (some ⟨(gOf (vc 7)), 2, none⟩) := hd 22 (by kernel_rfl)
                  have hcell : W.cell? ⟨(gOf (vc 7)), 2, none⟩ = some (.int .i64 T.best) := by rw [(K9h.out.below hW K9h.out.lt).cell 2]; rfl
                  exact op_value ho (want_yes rfl (show valAt _ a 19 = _ from h143)) (v := .int .i64 T.best) (by intro ρ hρ kc kf; rw [← hρ] at h146; clear hρ; simp [execOp, go_sem, h146, hcell]) ⟨_, rfl, (fun h => by cases h), rfl, Below.refl _ _, (fun h => absurd h (by decide))⟩
                · intro ho a W hW hd hx
                  have h143 : a.eval (.tmp 143) = .bool false := hd 19 (by kernel_rfl)
                  have h145 : a.eval (.tmp 145) = .int .i64 T.best := hd 21 (by kernel_rfl)
                  have h147 : a.eval (.tmp 147) = .int .i64 T.best := hd 23 (by kernel_rfl)
                  exact op_value ho (want_yes rfl (show valAt _ a 19 = _ from h143)) (v := .bool false) (by intro ρ hρ kc kf; rw [← hρ] at h145 h147; clear hρ; simp [execOp, go_sem, h145, h147]) ⟨_, rfl, (fun h => by cases h), rfl, Below.refl _ _, (fun h => absurd h (by decide))⟩
                · intro ho a W hW hd hx
                  have h143 : a.eval (.tmp 143) = .bool false := hd 19 (by kernel_rfl)
                  have h148 : a.eval (.tmp 148) = .bool false := hd 24 (by kernel_rfl)
                  exact op_value ho (want_none rfl) (v := .bool false) (by intro ρ hρ kc kf; rw [← hρ] at h143 h148; clear hρ; simp [execOp, go_sem, h143, h148]) ⟨_, rfl, (fun h => by cases h), rfl, Below.refl _ _, (fun h => absurd h (by decide))⟩
                · intro ho a W hW hd hx
                  have h149 : a.eval (.tmp 149) = .bool false := hd 25 (by kernel_rfl)
                  exact op_value ho (want_none rfl) (v := .bool false) (by intro ρ hρ kc kf; rw [← hρ] at h149; clear hρ; simp [execOp, go_sem, h149]) ⟨_, rfl, (fun h => by cases h), rfl, Below.refl _ _, (fun h => absurd h (by decide))⟩
                · intro ho a W hW hd hx
                  have h150 : a.eval (.tmp 150) = .bool false := hd 26 (by kernel_rfl)
                  have h10 : a.eval (.tmp 10) = .pointer (some ⟨(gOf (vd 1)), 0, none⟩) := (hx 10 (dst_not (by kernel_rfl))).trans rfl
                  exact op_value ho (want_yes rfl (show valAt _ a 26 = _ from h150)) (v := .agg (tc TE)) (by intro ρ hρ kc kf; rw [← hρ] at h10; exact run_load_T h10 (K10h.out.below hW K10h.out.lt)) ⟨_, rfl, (fun h => by cases h), rfl, Below.refl _ _, (fun h => absurd h (by decide))⟩
                · intro ho a W hW hd hx
                  have h150 : a.eval (.tmp 150) = .bool false := hd 26 (by kernel_rfl)
                  have h5 : a.eval (.tmp 5) = .pointer (some ⟨(gOf (va 2)), 0, none⟩) := (hx 5 (dst_not (by kernel_rfl))).trans rfl
                  exact op_value ho (want_yes rfl (show valAt _ a 26 = _ from h150)) (v := .agg (tc TE)) (by intro ρ hρ kc kf; rw [← hρ] at h5; exact run_load_T h5 (K5h.out.below hW K5h.out.lt)) ⟨_, rfl, (fun h => by cases h), rfl, Below.refl _ _, (fun h => absurd h (by decide))⟩
                · intro ho a W hW hd hx
                  have h150 : a.eval (.tmp 150) = .bool false := hd 26 (by kernel_rfl)
                  have h151 : a.eval (.tmp 151) = .agg (tc TE) := hd 27 (by kernel_rfl)
                  have h152 : a.eval (.tmp 152) = .agg (tc TE) := hd 28 (by kernel_rfl)
                  exact op_value ho (want_yes rfl (show valAt _ a 26 = _ from h150)) (v := .bool false) (by intro ρ hρ kc kf; rw [← hρ] at h151 h152; exact run_ne_op h151 h152) ⟨_, rfl, (fun h => by cases h), rfl, Below.refl _ _, (fun h => absurd h (by decide))⟩
                · intro ho a W hW hd hx
                  have h150 : a.eval (.tmp 150) = .bool false := hd 26 (by kernel_rfl)
                  have h153 : a.eval (.tmp 153) = .bool false := hd 29 (by kernel_rfl)
                  exact op_value ho (want_none rfl) (v := .bool false) (by intro ρ hρ kc kf; rw [← hρ] at h150 h153; clear hρ; simp [execOp, go_sem, h150, h153]) ⟨_, rfl, (fun h => by cases h), rfl, Below.refl _ _, (fun h => absurd h (by decide))⟩
              intro vg w8 hW hv _
              have hl : vg 30 = .bool false := hv 30 (by decide)
              simp only [List.take_succ_cons, List.take_zero, List.drop_succ_cons, List.drop_zero, fillL, wpTail, Act.put, List.setIfInBounds_toArray, List.set_cons_zero, List.set_cons_succ, Nat.reduceAdd]
              rw [hl]
              have K8i := Lib.hid (K8h.out.below hW K8h.out.lt); have K9i := Lib.hid (K9h.out.below hW K9h.out.lt); have KW8 := Lib.hid (KW7.out.trans (hW.mono KW7.out.size))
              clear hW hv hl
              cases s with
              | false =>
                go_upto_region 27 with fail
                refine wp_region_grows 13 ((fun q_ _ _ => q_ = .bool false) :: (fun q_ _ _ => q_ = .bool true) :: (fun q_ _ _ => q_ = .bool true) :: (fun q_ _ _ => q_ = undef) :: (fun q_ _ _ => q_ = undef) :: (fun q_ _ _ => q_ = undef) :: (fun q_ _ _ => q_ = undef) :: (fun q_ _ _ => q_ = undef) :: (fun q_ _ _ => q_ = .bool true) :: (fun q_ _ _ => q_ = .bool true) :: (fun q_ _ _ => q_ = .bool true) :: (fun q_ _ _ => q_ = .bool true) :: (fun q_ _ _ => q_ = .bool true) :: []) (fun _ => false) (w8.heap.size) w8 (by kernel_rfl) (by kernel_rfl) (by kernel_rfl) (Below.refl _ _) (Nat.le_refl _) ?iStab (fun _ h => by cases h) ?iOps ?iFin
                case iStab => exact ⟨st_is _, st_is _, st_is _, st_is _, st_is _, st_is _, st_is _, st_is _, st_is _, st_is _, st_is _, st_is _, st_is _, trivial⟩
                case iOps =>
                  intro Q
                  refine ⟨?_, ?_, ?_, ?_, ?_, ?_, ?_, ?_, ?_, ?_, ?_, ?_, ?_, trivial⟩
                  · intro ho a W hW hd hx
                    have h12 : a.eval (.tmp 12) = .bool false := (hx 12 (dst_not (by kernel_rfl))).trans rfl
                    exact op_value ho (want_none rfl) (v := .bool false) (by intro ρ hρ kc kf; rw [← hρ] at h12; clear hρ; simp [execOp, go_sem, h12]) ⟨_, rfl, (fun h => by cases h), rfl, Below.refl _ _, (fun h => absurd h (by decide))⟩
                  · intro ho a W hW hd hx
                    have h155 : a.eval (.tmp 155) = .bool false := hd 0 (by kernel_rfl)
                    exact op_value ho (want_none rfl) (v := .bool true) (by intro ρ hρ kc kf; rw [← hρ] at h155; clear hρ; simp [execOp, go_sem, h155]) ⟨_, rfl, (fun h => by cases h), rfl, Below.refl _ _, (fun h => absurd h (by decide))⟩
                  · intro ho a W hW hd hx
                    have h156 : a.eval (.tmp 156) = .bool true := hd 1 (by kernel_rfl)
                    exact op_value ho (want_none rfl) (v := .bool true) (by intro ρ hρ kc kf; rw [← hρ] at h156; clear hρ; simp [execOp, go_sem, h156]) ⟨_, rfl, (fun h => by cases h), rfl, Below.refl _ _, (fun h => absurd h (by decide))⟩
                  · intro ho a W hW hd hx
                    have h157 : a.eval (.tmp 157) = .bool true := hd 2 (by kernel_rfl)
                    have h8 : a.eval (.tmp 8) = .pointer (some ⟨(gOf (vc 6)), 0, none⟩) := (hx 8 (dst_not (by kernel_rfl))).trans rfl
                    exact op_none ho (want_no (c := true) rfl (show valAt _ a 2 = _ from h157) (by decide)) ⟨_, rfl, (fun h => by cases h), rfl, Below.refl _ _, (fun h => absurd h (by decide))⟩
                  · intro ho a W hW hd hx
                    have h157 : a.eval (.tmp 157) = .bool true := hd 2 (by kernel_rfl)
                    have h158 : a.eval (.tmp 158) = undef := hd 3 (by kernel_rfl)
                    exact op_none ho (want_no (c := true) rfl (show valAt _ a 2 = _ from h157) (by decide)) ⟨_, rfl, (fun h => by cases h), rfl, Below.refl _ _, (fun h => absurd h (by decide))⟩
                  · intro ho a W hW hd hx
                    have h157 : a.eval (.tmp 157) = .bool true := hd 2 (by kernel_rfl)
                    have h9 : a.eval (.tmp 9) = .pointer (some ⟨(gOf (vc 7)), 0, none⟩) := (hx 9 (dst_not (by kernel_rfl))).trans rfl
                    exact op_none ho (want_no (c := true) rfl (show valAt _ a 2 = _ from h157) (by decide)) ⟨_, rfl, (fun h => by cases h), rfl, Below.refl _ _, (fun h => absurd h (by decide))⟩
                  · intro ho a W hW hd hx
                    have h157 : a.eval (.tmp 157) = .bool true := hd 2 (by kernel_rfl)
                    have h160 : a.eval (.tmp 160) = undef := hd 5 (by kernel_rfl)
                    exact op_none ho (want_no (c := true) rfl (show valAt _ a 2 = _ from h157) (by decide)) ⟨_, rfl, (fun h => by cases h), rfl, Below.refl _ _, (fun h => absurd h (by decide))⟩
                  · intro ho a W hW hd hx
                    have h157 : a.eval (.tmp 157) = .bool true := hd 2 (by kernel_rfl)
                    have h159 : a.eval (.tmp 159) = undef := hd 4 (by kernel_rfl)
                    have h161 : a.eval (.tmp 161) = undef := hd 6 (by kernel_rfl)
                    exact op_none ho (want_no (c := true) rfl (show valAt _ a 2 = _ from h157) (by decide)) ⟨_, rfl, (fun h => by cases h), rfl, Below.refl _ _, (fun h => absurd h (by decide))⟩
                  · intro ho a W hW hd hx
                    have h157 : a.eval (.tmp 157) = .bool true := hd 2 (by kernel_rfl)
                    have h162 : a.eval (.tmp 162) = undef := hd 7 (by kernel_rfl)
                    exact op_value ho (want_none rfl) (v := .bool true) (by intro ρ hρ kc kf; rw [← hρ] at h157; clear hρ; simp [execOp, go_sem, kc, h157]) ⟨_, rfl, (fun h => by cases h), rfl, Below.refl _ _, (fun h => absurd h (by decide))⟩
                  · intro ho a W hW hd hx
                    have h163 : a.eval (.tmp 163) = .bool true := hd 8 (by kernel_rfl)
                    exact op_value ho (want_none rfl) (v := .bool true) (by intro ρ hρ kc kf; rw [← hρ] at h163; clear hρ; simp [execOp, go_sem, h163]) ⟨_, rfl, (fun h => by cases h), rfl, Below.refl _ _, (fun h => absurd h (by decide))⟩
                  · intro ho a W hW hd hx
                    have h164 : a.eval (.tmp 164) = .bool true := hd 9 (by kernel_rfl)
                    refine op_call ho (want_yes rfl (show valAt _ a 9 = _ from h164)) (by intro ρ hρ kc kf; clear hρ; simp [execOp, go_sem, kf]) (wakes_any W) ?_
                    rintro e W2 ⟨rfl, k2⟩
                    exact ⟨_, rfl, _, rfl, (fun h => by cases h), rfl, k2, (fun h => absurd h (by decide))⟩
                  · intro ho a W hW hd hx
                    have h164 : a.eval (.tmp 164) = .bool true := hd 9 (by kernel_rfl)
                    have h165 : a.eval (.tmp 165) = .bool true := hd 10 (by kernel_rfl)
                    exact op_value ho (want_none rfl) (v := .bool true) (by intro ρ hρ kc kf; rw [← hρ] at h164 h165; clear hρ; simp [execOp, go_sem, h164, h165]) ⟨_, rfl, (fun h => by cases h), rfl, Below.refl _ _, (fun h => absurd h (by decide))⟩
                  · intro ho a W hW hd hx
                    have h166 : a.eval (.tmp 166) = .bool true := hd 11 (by kernel_rfl)
                    exact op_value ho (want_none rfl) (v := .bool true) (by intro ρ hρ kc kf; rw [← hρ] at h166; clear hρ; simp [execOp, go_sem, h166]) ⟨_, rfl, (fun h => by cases h), rfl, Below.refl _ _, (fun h => absurd h (by decide))⟩
                intro vh W hW hv _
                have hlast : vh 12 = .bool true := hv 12 (by decide)
                simp only [List.take_succ_cons, List.take_zero, List.drop_succ_cons, List.drop_zero, fillL, wpTail, Act.put, List.setIfInBounds_toArray, List.set_cons_zero, List.set_cons_succ, Nat.reduceAdd]
                rw [hlast]
                go_wp2
                go_ret
                exact ⟨rfl, KW8.out.trans (hW.mono KW8.out.size)⟩
              | true =>
                have k9 := K9i.out
                rw [HV.out rfl] at k9
                have K9j := Lib.hid k9
                clear k9
                go_upto_region 27 with fail
                refine wp_region_grows 13 ((fun q_ _ _ => q_ = .bool true) :: (fun q_ _ _ => q_ = .bool false) :: (fun q_ _ _ => q_ = .bool false) :: (fun q_ _ _ => q_ = .pointer (some ⟨(gOf (vc 6)), 3, none⟩)) :: (fun q_ _ _ => q_ = .string T.val) :: (fun q_ _ _ => q_ = .pointer (some ⟨(gOf (vc 7)), 3, none⟩)) :: (fun q_ _ _ => q_ = .string T.val) :: (fun q_ _ _ => q_ = .bool true) :: (fun q_ _ _ => q_ = .bool true) :: (fun q_ _ _ => q_ = .bool true) :: (fun q_ _ _ => q_ = .bool true) :: (fun q_ _ _ => q_ = .bool true) :: (fun q_ _ _ => q_ = .bool true) :: []) (fun _ => false) (w8.heap.size) w8 (by kernel_rfl) (by kernel_rfl) (by kernel_rfl) (Below.refl _ _) (Nat.le_refl _) ?hStab (fun _ h => by cases h) ?hOps ?hFin
                case hStab => exact ⟨st_is _, st_is _, st_is _, st_is _, st_is _, st_is _, st_is _, st_is _, st_is _, st_is _, st_is _, st_is _, st_is _, trivial⟩
                case hOps =>
                  intro Q
                  refine ⟨?_, ?_, ?_, ?_, ?_, ?_, ?_, ?_, ?_, ?_, ?_, ?_, ?_, trivial⟩
                  · intro ho a W hW hd hx
                    have h12 : a.eval (.tmp 12) = .bool true := (hx 12 (dst_not (by kernel_rfl))).trans rfl
                    exact op_value ho (want_none rfl) (v := .bool true) (by intro ρ hρ kc kf; rw [← hρ] at h12; clear hρ; simp [execOp, go_sem, h12]) ⟨_, rfl, (fun h => by cases h), rfl, Below.refl _ _, (fun h => absurd h (by decide))⟩
                  · intro ho a W hW hd hx
                    have h155 : a.eval (.tmp 155) = .bool true := hd 0 (by kernel_rfl)
                    exact op_value ho (want_none rfl) (v := .bool false) (by intro ρ hρ kc kf; rw [← hρ] at h155; clear hρ; simp [execOp, go_sem, h155]) ⟨_, rfl, (fun h => by cases h), rfl, Below.refl _ _, (fun h => absurd h (by decide))⟩
                  · intro ho a W hW hd hx
                    have h156 : a.eval (.tmp 156) = .bool false := hd 1 (by kernel_rfl)
                    exact op_value ho (want_none rfl) (v := .bool false) (by intro ρ hρ kc kf; rw [← hρ] at h156; clear hρ; simp [execOp, go_sem, h156]) ⟨_, rfl, (fun h => by cases h), rfl, Below.refl _ _, (fun h => absurd h (by decide))⟩
                  · intro ho a W hW hd hx
                    have h157 : a.eval (.tmp 157) = .bool false := hd 2 (by kernel_rfl)
                    have h8 : a.eval (.tmp 8) = .pointer (some ⟨(gOf (vc 6)), 0, none⟩) := (hx 8 (dst_not (by kernel_rfl))).trans rfl
                    exact op_value ho (want_yes rfl (show valAt _ a 2 = _ from h157)) (v := .pointer (some ⟨(gOf (vc 6)), 3, none⟩)) (by intro ρ hρ kc kf; rw [← hρ] at h8; clear hρ; simp [execOp, go_sem, h8]) ⟨_, rfl, (fun h => by cases h), rfl, Below.refl _ _, (fun h => absurd h (by decide))⟩
                  · intro ho a W hW hd hx
                    have h157 : a.eval (.tmp 157) = .bool false := hd 2 (by kernel_rfl)
                    have h158 : a.eval (.tmp 158) = .pointer (some ⟨(gOf (vc 6)), 3, none⟩) := hd 3 (by kernel_rfl)
                    have hcell : W.cell? ⟨(gOf (vc 6)), 3, none⟩ = some (.string T.val) := by rw [(K8i.out.below hW K8i.out.lt).cell 3]; rfl
                    exact op_value ho (want_yes rfl (show valAt _ a 2 = _ from h157)) (v := .string T.val) (by intro ρ hρ kc kf; rw [← hρ] at h158; clear hρ; simp [execOp, go_sem, h158, hcell]) ⟨_, rfl, (fun h => by cases h), rfl, Below.refl _ _, (fun h => absurd h (by decide))⟩
                  · intro ho a W hW hd hx
                    have h157 : a.eval (.tmp 157) = .bool false := hd 2 (by kernel_rfl)
                    have h9 : a.eval (.tmp 9) = .pointer (some ⟨(gOf (vc 7)), 0, none⟩) := (hx 9 (dst_not (by kernel_rfl))).trans rfl
                    exact op_value ho (want_yes rfl (show valAt _ a 2 = _ from h157)) (v := .pointer (some ⟨(gOf (vc 7)), 3, none⟩)) (by intro ρ hρ kc kf; rw [← hρ] at h9; clear hρ; simp [execOp, go_sem, h9]) ⟨_, rfl, (fun h => by cases h), rfl, Below.refl _ _, (fun h => absurd h (by decide))⟩
                  · intro ho a W hW hd hx
                    have h157 : a.eval (.tmp 157) = .bool false := hd 2 (by kernel_rfl)
                    have h160 : a.eval (.tmp 160) = .pointer (some ⟨(gOf (vc 7)), 3, none⟩) := hd 5 (by kernel_rfl)
                    have hcell : W.cell? ⟨(gOf (vc 7)), 3, none⟩ = some (.string T.val) := by rw [(K9j.out.below hW K9j.out.lt).cell 3]; rfl
                    exact op_value ho (want_yes rfl (show valAt _ a 2 = _ from h157)) (v := .string T.val) (by intro ρ hρ kc kf; rw [← hρ] at h160; clear hρ; simp [execOp, go_sem, h160, hcell]) ⟨_, rfl, (fun h => by cases h), rfl, Below.refl _ _, (fun h => absurd h (by decide))⟩
                  · intro ho a W hW hd hx
                    have h157 : a.eval (.tmp 157) = .bool false := hd 2 (by kernel_rfl)
                    have h159 : a.eval (.tmp 159) = .string T.val := hd 4 (by kernel_rfl)
                    have h161 : a.eval (.tmp 161) = .string T.val := hd 6 (by kernel_rfl)
                    exact op_value ho (want_yes rfl (show valAt _ a 2 = _ from h157)) (v := .bool true) (by intro ρ hρ kc kf; rw [← hρ] at h159 h161; clear hρ; simp [execOp, go_sem, h159, h161]) ⟨_, rfl, (fun h => by cases h), rfl, Below.refl _ _, (fun h => absurd h (by decide))⟩
                  · intro ho a W hW hd hx
                    have h157 : a.eval (.tmp 157) = .bool false := hd 2 (by kernel_rfl)
                    have h162 : a.eval (.tmp 162) = .bool true := hd 7 (by kernel_rfl)
                    exact op_value ho (want_none rfl) (v := .bool true) (by intro ρ hρ kc kf; rw [← hρ] at h157 h162; clear hρ; simp [execOp, go_sem, h157, h162]) ⟨_, rfl, (fun h => by cases h), rfl, Below.refl _ _, (fun h => absurd h (by decide))⟩
                  · intro ho a W hW hd hx
                    have h163 : a.eval (.tmp 163) = .bool true := hd 8 (by kernel_rfl)
                    exact op_value ho (want_none rfl) (v := .bool true) (by intro ρ hρ kc kf; rw [← hρ] at h163; clear hρ; simp [execOp, go_sem, h163]) ⟨_, rfl, (fun h => by cases h), rfl, Below.refl _ _, (fun h => absurd h (by decide))⟩
                  · intro ho a W hW hd hx
                    have h164 : a.eval (.tmp 164) = .bool true := hd 9 (by kernel_rfl)
                    refine op_call ho (want_yes rfl (show valAt _ a 9 = _ from h164)) (by intro ρ hρ kc kf; clear hρ; simp [execOp, go_sem, kf]) (wakes_any W) ?_
                    rintro e W2 ⟨rfl, k2⟩
                    exact ⟨_, rfl, _, rfl, (fun h => by cases h), rfl, k2, (fun h => absurd h (by decide))⟩
                  · intro ho a W hW hd hx
                    have h164 : a.eval (.tmp 164) = .bool true := hd 9 (by kernel_rfl)
                    have h165 : a.eval (.tmp 165) = .bool true := hd 10 (by kernel_rfl)
                    exact op_value ho (want_none rfl) (v := .bool true) (by intro ρ hρ kc kf; rw [← hρ] at h164 h165; clear hρ; simp [execOp, go_sem, h164, h165]) ⟨_, rfl, (fun h => by cases h), rfl, Below.refl _ _, (fun h => absurd h (by decide))⟩
                  · intro ho a W hW hd hx
                    have h166 : a.eval (.tmp 166) = .bool true := hd 11 (by kernel_rfl)
                    exact op_value ho (want_none rfl) (v := .bool true) (by intro ρ hρ kc kf; rw [← hρ] at h166; clear hρ; simp [execOp, go_sem, h166]) ⟨_, rfl, (fun h => by cases h), rfl, Below.refl _ _, (fun h => absurd h (by decide))⟩
                intro vh W hW hv _
                have hlast : vh 12 = .bool true := hv 12 (by decide)
                simp only [List.take_succ_cons, List.take_zero, List.drop_succ_cons, List.drop_zero, fillL, wpTail, Act.put, List.setIfInBounds_toArray, List.set_cons_zero, List.set_cons_succ, Nat.reduceAdd]
                rw [hlast]
                go_wp2
                go_ret
                exact ⟨rfl, KW8.out.trans (hW.mono KW8.out.size)⟩


set_option maxRecDepth 100000 in
theorem order_great (own : Rc) (A : Option Addr) (n c : Nat) (l : List Rc) (w : World) (hl : RdR w w.heap.size A n l) (hn : n ≤ 9223372036854775807) (hg : grB l = true) :
    Calls Try.prog 4 #[.agg (rc own), .slice A n c] w fun e w' => e = .returned (.bool true) ∧ Below w.heap.size w w' := by
  change Calls Try.prog 4 #[.agg #[.int .i64 own.inst, .int .i64 own.mbal, .int .i64 own.bal, .string own.val], .slice A n c] w _
  have C1 := Lib.hid (great_c A n c w.heap.size l (w.alloc (Obj.cells #[Value.int IntKind.i64 own.inst, Value.int IntKind.i64 own.mbal, Value.int IntKind.i64 own.bal, Value.string own.val] 23)) (hl.below ((Below.refl _ _).alloc (Nat.le_refl _) _)) hn hg)
  have KW0 : Hid (Below w.heap.size w (w.alloc (Obj.cells #[Value.int IntKind.i64 own.inst, Value.int IntKind.i64 own.mbal, Value.int IntKind.i64 own.bal, Value.string own.val] 23))) := Lib.hid ((Below.refl _ _).alloc (Nat.le_refl _) _)
  have CW := Lib.hid (wakes_any (w.alloc (Obj.cells #[Value.int IntKind.i64 own.inst, Value.int IntKind.i64 own.mbal, Value.int IntKind.i64 own.bal, Value.string own.val] 23)))
  clear hl hg
  go_enter Try.func4, Try.ntmps4
  go_wp2_with fail
  refine C1.out.mono ?_
  rintro e w1 ⟨rfl, rfl⟩
  go_wp2_with fail
  refine CW.out.mono ?_
  rintro e w1 ⟨rfl, hb⟩
  go_wp2
  go_ret
  exact ⟨rfl, KW0.out.trans (hb.mono KW0.out.size)⟩

set_option maxRecDepth 100000 in
theorem order_own (own : Rc) (A : Option Addr) (n c : Nat) (l : List Rc) (w : World) (hl : RdR w w.heap.size A n l) (hn : n ≤ 9223372036854775807) (hg : grB l = false) (ho : grB [own] = true) :
    Calls Try.prog 4 #[.agg (rc own), .slice A n c] w fun e w' => e = .returned (.bool true) ∧ Below w.heap.size w w' := by
  change Calls Try.prog 4 #[.agg #[.int .i64 own.inst, .int .i64 own.mbal, .int .i64 own.bal, .string own.val], .slice A n c] w _
  have C1 := Lib.hid (great_c A n c w.heap.size l (w.alloc (Obj.cells #[Value.int IntKind.i64 own.inst, Value.int IntKind.i64 own.mbal, Value.int IntKind.i64 own.bal, Value.string own.val] 23)) (hl.below ((Below.refl _ _).alloc (Nat.le_refl _) _)) hn hg)
  have k1 := Blk.new (w.alloc (Obj.cells #[Value.int IntKind.i64 own.inst, Value.int IntKind.i64 own.mbal, Value.int IntKind.i64 own.bal, Value.string own.val] 23)) 23 (rc own)
  have C2 : Hid (Calls Try.prog 8 #[.slice (some ⟨w.heap.size + 1, 0, none⟩) 1 1] ((w.alloc (Obj.cells #[Value.int IntKind.i64 own.inst, Value.int IntKind.i64 own.mbal, Value.int IntKind.i64 own.bal, Value.string own.val] 23)).alloc (Obj.cells #[Value.int IntKind.i64 own.inst, Value.int IntKind.i64 own.mbal, Value.int IntKind.i64 own.bal, Value.string own.val] 23)) _) := Lib.hid (great_one (w.heap.size + 1) own _ (by simpa [rc] using k1) ho)
  have KW0 : Hid (Below w.heap.size w ((w.alloc (Obj.cells #[Value.int IntKind.i64 own.inst, Value.int IntKind.i64 own.mbal, Value.int IntKind.i64 own.bal, Value.string own.val] 23)).alloc (Obj.cells #[Value.int IntKind.i64 own.inst, Value.int IntKind.i64 own.mbal, Value.int IntKind.i64 own.bal, Value.string own.val] 23))) := Lib.hid (((Below.refl _ _).alloc (Nat.le_refl _) _).alloc (by simp) _)
  have CW := Lib.hid (wakes_any ((w.alloc (Obj.cells #[Value.int IntKind.i64 own.inst, Value.int IntKind.i64 own.mbal, Value.int IntKind.i64 own.bal, Value.string own.val] 23)).alloc (Obj.cells #[Value.int IntKind.i64 own.inst, Value.int IntKind.i64 own.mbal, Value.int IntKind.i64 own.bal, Value.string own.val] 23)))
  clear hl hg k1 ho
  go_enter Try.func4, Try.ntmps4
  go_wp2_with fail
  refine C1.out.mono ?_
  rintro e w1 ⟨rfl, rfl⟩
  go_wp2_with fail
  refine C2.out.mono ?_
  rintro e w1 ⟨rfl, rfl⟩
  go_wp2_with fail
  refine CW.out.mono ?_
  rintro e w1 ⟨rfl, hb⟩
  go_wp2
  go_ret
  exact ⟨rfl, KW0.out.trans (hb.mono KW0.out.size)⟩

theorem order_any (own : Rc) (A : Option Addr) (n c : Nat) (l : List Rc) (w : World) (hl : RdR w w.heap.size A n l) (hn : n ≤ maxLen) (hs : Sl A n c) :
    Calls Try.prog 4 #[.agg (rc own), .slice A n c] w fun e w' => e = .returned (.bool true) ∧ Below w.heap.size w w' := by
  unfold maxLen at hn
  cases hg : grB l with
  | true => exact order_great own A n c l w hl (by omega) hg
  | false =>
    cases ho : grB [own] with
    | true => exact order_own own A n c l w hl (by omega) hg ho
    | false => exact order_main own A n c l w hl (by have := (gr_false hg).1; have := hl.1; omega) hs hg ho

end Go.Proofs.Ytilpcoebpinmfaa
